/- contracts of functions, each walked once -/
import Derived.Test.YtffmjlalacnfiaaS2
namespace Go.Proofs.Ytffmjlalacnfiaa
open Go Go.RowKit
set_option maxRecDepth 100000
set_option maxHeartbeats 3200000
set_option linter.unusedVariables false
set_option linter.unusedSimpArgs false

/- laws.FnExactSpreadGrid -/
theorem c_laws_FnExactSpreadGrid (g : List Value) (A_g : GridT) (w : World) (hv_g : RGridT w A_g g) : Gives Try.prog 6 #[(.agg g.toArray)] w (fun v w' => v = (Bo true)) := by
  obtain ⟨r1, r3, r5, r7, y9, rfl, h2, h4, h6, h8, h10⟩ := hv_g
  have hs13 := h10; have hs13l := Sl.len h10; obtain ⟨p11, q12, rfl⟩ := Sl.shape h10
  have hgl := sprG_len A_g
  refine enter [(.agg #[(Fl r1), (Fl r3), (Fl r5), (Fl r7), (Iv A_g.x), (Iv A_g.y), (Iv A_g.z), (.slice p11 A_g.vals.length q12)]), Ud, Ud, Ud, Ud, Ud, Ud, Ud, Ud, Ud, Ud, Ud, Ud, Ud, Ud, Ud, Ud, Ud, Ud, Ud, Ud, Ud, Ud, Ud, Ud, Ud, Ud, Ud, Ud, Ud, Ud, Ud, Ud, Ud, Ud, Ud, Ud, Ud, Ud, Ud, Ud, Ud, Ud, Ud, Ud, Ud, Ud, Ud, Ud, Ud, Ud, Ud, Ud, Ud, Ud, Ud, Ud, Ud, Ud, Ud, Ud, Ud, Ud, Ud, Ud, Ud, Ud, Ud, Ud, Ud, Ud, Ud, Ud, Ud, Ud, Ud, Ud, Ud, Ud, Ud, Ud, Ud, Ud, Ud, Ud, Ud, Ud, Ud, Ud, Ud, Ud, Ud, Ud, Ud, Ud, Ud, Ud, Ud, Ud, Ud, Ud, Ud, Ud, Ud, Ud, Ud, Ud, Ud, Ud, Ud, Ud, Ud, Ud, Ud, Ud, Ud, Ud] Try.func6 rfl Try.ntmps6 rfl ?_
  refine wp_seq_k fun K14 hK14 => ?_
  refine wp_region_lit ?_
  refine seqd rfl rfl (does_box (u := (.agg #[(Fl r1), (Fl r3), (Fl r5), (Fl r7), (Iv A_g.x), (Iv A_g.y), (Iv A_g.z), (.slice p11 A_g.vals.length q12)])) (ev rfl)) ?_; rintro _ w19 ⟨b15, rfl, hb16, hB17, E18⟩
  have g20 : w.heap.size ≤ b15 := Nat.le_trans (Below.size (Ext.refl w)) hb16
  change Blk _ _ [(Fl r1), (Fl r3), (Fl r5), (Fl r7), (Iv A_g.x), (Iv A_g.y), (Iv A_g.z), (.slice p11 A_g.vals.length q12)] at hB17
  have X21 := Ext.gr (Ext.refl w) E18
  show wpList _ _ _ _ (fr [_, _, _, _, _, _, _, _, _, _, _, _, _, _, _, _, _, _, _, _, _, _, _, _, _, _, _, _, _, _, _, _, _, _, _, _, _, _, _, _, _, _, _, _, _, _, _, _, _, _, _, _, _, _, _, _, _, _, _, _, _, _, _, _, _, _, _, _, _, _, _, _, _, _, _, _, _, _, _, _, _, _, _, _, _, _, _, _, _, _, _, _, _, _, _, _, _, _, _, _, _, _, _, _, _, _, _, _, _, _, _, _, _, _, _, _, _]) _
  refine q_is rfl rfl (does_assign (u := (Bo false)) (ev rfl)) (by dsimp only [List.set]; try rfl) ?_
  refine wpList_nil (hK14 _ _ ?_)
  refine wp_seq_k fun K22 hK22 => ?_
  refine wp_region_lit ?_
  refine q_is rfl rfl (does_assign (u := (Iv 1048576)) (ev rfl)) (by dsimp only [List.set]; try rfl) ?_
  refine wpList_nil (hK22 _ _ ?_)
  refine wp_seq_k fun K23 hK23 => ?_
  refine wp_region_lit ?_
  refine q_is rfl rfl (does_loadAgg (cs := [(Fl r1), (Fl r3), (Fl r5), (Fl r7), (Iv A_g.x), (Iv A_g.y), (Iv A_g.z), (.slice p11 A_g.vals.length q12)]) (ev rfl) Try.isAgg27 Try.sizeOf27 (Blk.cells hB17) rfl) (by dsimp only [List.set]; try rfl) ?_
  refine q_is rfl rfl (does_move (u := (Iv 1048576)) (ev rfl)) (by dsimp only [List.set]; try rfl) ?_
  refine seqd rfl rfl (does_call (args := #[(.agg #[(Fl r1), (Fl r3), (Fl r5), (Fl r7), (Iv A_g.x), (Iv A_g.y), (Iv A_g.z), (.slice p11 A_g.vals.length q12)]), (Iv 1048576)]) cal7 (evs rfl) (c_laws_szGrid [(Fl r1), (Fl r3), (Fl r5), (Fl r7), (Iv A_g.x), (Iv A_g.y), (Iv A_g.z), (.slice p11 A_g.vals.length q12)] A_g 1048576 _ ⟨r1, r3, r5, r7, (.slice p11 A_g.vals.length q12), rfl, h2, h4, h6, h8, (Sl.ext hs13 RF.mono X21)⟩ (by omega) (by omega))) ?_; rintro _ w25 ⟨E24, ⟨i26, rfl, h27⟩⟩
  have X28 := Ext.gr X21 E24
  show wpList _ _ _ _ (fr [_, _, _, _, _, _, _, _, _, _, _, _, _, _, _, _, _, _, _, _, _, _, _, _, _, _, _, _, _, _, _, _, _, _, _, _, _, _, _, _, _, _, _, _, _, _, _, _, _, _, _, _, _, _, _, _, _, _, _, _, _, _, _, _, _, _, _, _, _, _, _, _, _, _, _, _, _, _, _, _, _, _, _, _, _, _, _, _, _, _, _, _, _, _, _, _, _, _, _, _, _, _, _, _, _, _, _, _, _, _, _, _, _, _, _, _, _]) _
  refine q_is rfl rfl (does_assign (u := (Iv i26)) (ev rfl)) (by dsimp only [List.set]; try rfl) ?_
  refine wpList_nil (hK23 _ _ ?_)
  refine wp_seq_k fun K29 hK29 => ?_
  refine wp_seq_k fun K30 hK30 => ?_
  refine wp_region_lit ?_
  refine q_is rfl rfl (does_move (u := (Iv i26)) (ev rfl)) (by dsimp only [List.set]; try rfl) ?_
  refine q_is rfl rfl (does_icmp (p := i26) (q := 0) (.inr (.inr (.inl rfl))) (ev rfl) (ev rfl)) (by dsimp only [List.set]; try rfl) ?_
  refine wpList_nil (hK30 _ _ ?_)
  refine wp_cond_split (t := icmp .lss i26 0) (ev rfl) (fun c31 => ?_) (fun c31 => ?_)
  · have c31' := c31
    (try simp only [sameG_self, bne_self_eq_false] at c31')
    (try simp only [icmp, Bool.and_eq_true, Bool.or_eq_true, Bool.and_eq_false_iff, Bool.or_eq_false_iff, Bool.not_eq_true', Bool.not_eq_false', decide_eq_true_eq, decide_eq_false_iff_not, beq_iff_eq, bne_iff_ne, beq_eq_false_iff_ne, bne_eq_false_iff_eq] at c31')
    refine wp_seq_k fun K32 hK32 => ?_
    refine wp_region_lit ?_
    refine q_is rfl rfl (does_assign (u := (Bo true)) (ev rfl)) (by dsimp only [List.set]; try rfl) ?_
    refine wpList_nil (hK32 _ _ ?_)
    refine wp_ret ?_
    dsimp only [Exit.then, Exit.inBlock]
    refine ret_val (v := (Bo true)) (res_T rfl (slot rfl)) X28 ?_
    try simp only [h2, h4, h6, h8, sameG_self, bne_self_eq_false] at c31
    exact rfl
  have c31' := c31
  (try simp only [sameG_self, bne_self_eq_false] at c31')
  (try simp only [icmp, Bool.and_eq_true, Bool.or_eq_true, Bool.and_eq_false_iff, Bool.or_eq_false_iff, Bool.not_eq_true', Bool.not_eq_false', decide_eq_true_eq, decide_eq_false_iff_not, beq_iff_eq, bne_iff_ne, beq_eq_false_iff_ne, bne_eq_false_iff_eq] at c31')
  refine wp_skip (hK29 _ _ ?_)
  refine wp_seq_k fun K33 hK33 => ?_
  refine wp_region_lit ?_
  refine q_is rfl rfl (does_loadAgg (cs := [(Fl r1), (Fl r3), (Fl r5), (Fl r7), (Iv A_g.x), (Iv A_g.y), (Iv A_g.z), (.slice p11 A_g.vals.length q12)]) (ev rfl) Try.isAgg27 Try.sizeOf27 (Blk.cells (hB17.ext E24)) rfl) (by dsimp only [List.set]; try rfl) ?_
  refine seqd rfl rfl (does_call (args := #[(.agg #[(Fl r1), (Fl r3), (Fl r5), (Fl r7), (Iv A_g.x), (Iv A_g.y), (Iv A_g.z), (.slice p11 A_g.vals.length q12)])]) cal9 (evs rfl) (c_laws_toGrid [(Fl r1), (Fl r3), (Fl r5), (Fl r7), (Iv A_g.x), (Iv A_g.y), (Iv A_g.z), (.slice p11 A_g.vals.length q12)] A_g _ ⟨r1, r3, r5, r7, (.slice p11 A_g.vals.length q12), rfl, h2, h4, h6, h8, (Sl.ext hs13 RF.mono X28)⟩ (by omega))) ?_; rintro _ w35 ⟨E34, ⟨cs37, Lw38, rfl, hh36, hw39⟩⟩
  have X40 := Ext.gr X28 E34
  have n41 : b15 < w25.heap.size := Blk.lt (hB17.ext E24)
  obtain ⟨r42, r44, r46, r48, y50, rfl, h43, h45, h47, h49, h51⟩ := hh36.get
  have h51l := Sl.len h51; obtain ⟨p52, q53, rfl⟩ := Sl.shape h51
  have hh54 : Hang w25.heap.size w35 (fun u => Sl RF 1 u (.slice p52 A_g.vals.length q53) A_g.vals) := fun u hu => by obtain ⟨_, _, _, _, _, hq, _, _, _, _, _⟩ := hh36 u hu; cases hq; assumption
  have hw55 : WL 1 w25.heap.size w35 Lw38 (.slice p52 A_g.vals.length q53) A_g.vals.length := hw39
  show wpList _ _ _ _ (fr [_, _, _, _, _, _, _, _, _, _, _, _, _, _, _, _, _, _, _, _, _, _, _, _, _, _, _, _, _, _, _, _, _, _, _, _, _, _, _, _, _, _, _, _, _, _, _, _, _, _, _, _, _, _, _, _, _, _, _, _, _, _, _, _, _, _, _, _, _, _, _, _, _, _, _, _, _, _, _, _, _, _, _, _, _, _, _, _, _, _, _, _, _, _, _, _, _, _, _, _, _, _, _, _, _, _, _, _, _, _, _, _, _, _, _, _, _]) _
  refine seqd rfl rfl (does_call (args := #[(.agg #[(Fl r42), (Fl r44), (Fl r46), (Fl r48), (Iv A_g.x), (Iv A_g.y), (Iv A_g.z), (.slice p52 A_g.vals.length q53)])]) cal21 (evs rfl) (c_spec_SpreadGrid [(Fl r42), (Fl r44), (Fl r46), (Fl r48), (Iv A_g.x), (Iv A_g.y), (Iv A_g.z), (.slice p52 A_g.vals.length q53)] A_g _ ⟨r42, r44, r46, r48, (.slice p52 A_g.vals.length q53), rfl, h43, h45, h47, h49, hh54.get⟩)) ?_; rintro _ w57 ⟨E56, ⟨cs59, rfl, hh58⟩⟩
  have X60 := Ext.gr X40 E56
  have n61 : b15 < w35.heap.size := Blk.lt ((hB17.ext E24).ext E34)
  obtain ⟨r62, r64, r66, r68, y70, rfl, h63, h65, h67, h69, h71⟩ := hh58.get
  have h71l := Sl.len h71; obtain ⟨p72, q73, rfl⟩ := Sl.shape h71
  have hh74 : Hang w35.heap.size w57 (fun u => Sl RF 1 u (.slice p72 (((sprG A_g).vals).length) q73) ((sprG A_g).vals)) := fun u hu => by obtain ⟨_, _, _, _, _, hq, _, _, _, _, _⟩ := hh58 u hu; cases hq; assumption
  show wpList _ _ _ _ (fr [_, _, _, _, _, _, _, _, _, _, _, _, _, _, _, _, _, _, _, _, _, _, _, _, _, _, _, _, _, _, _, _, _, _, _, _, _, _, _, _, _, _, _, _, _, _, _, _, _, _, _, _, _, _, _, _, _, _, _, _, _, _, _, _, _, _, _, _, _, _, _, _, _, _, _, _, _, _, _, _, _, _, _, _, _, _, _, _, _, _, _, _, _, _, _, _, _, _, _, _, _, _, _, _, _, _, _, _, _, _, _, _, _, _, _, _, _]) _
  refine q_is rfl rfl (does_move (u := (.tuple #[(.agg #[(Fl r62), (Fl r64), (Fl r66), (Fl r68), (Iv ((sprG A_g).x)), (Iv ((sprG A_g).y)), (Iv ((sprG A_g).z)), (.slice p72 (((sprG A_g).vals).length) q73)]), (Iv (sprI A_g)), (Bo (sprB A_g))])) (ev rfl)) (by dsimp only [List.set]; try rfl) ?_
  refine q_is rfl rfl (does_extract (vs := #[(.agg #[(Fl r62), (Fl r64), (Fl r66), (Fl r68), (Iv ((sprG A_g).x)), (Iv ((sprG A_g).y)), (Iv ((sprG A_g).z)), (.slice p72 (((sprG A_g).vals).length) q73)]), (Iv (sprI A_g)), (Bo (sprB A_g))]) (u := (.agg #[(Fl r62), (Fl r64), (Fl r66), (Fl r68), (Iv ((sprG A_g).x)), (Iv ((sprG A_g).y)), (Iv ((sprG A_g).z)), (.slice p72 (((sprG A_g).vals).length) q73)])) (ev rfl) rfl) (by dsimp only [List.set]; try rfl) ?_
  refine q_is rfl rfl (does_extract (vs := #[(.agg #[(Fl r62), (Fl r64), (Fl r66), (Fl r68), (Iv ((sprG A_g).x)), (Iv ((sprG A_g).y)), (Iv ((sprG A_g).z)), (.slice p72 (((sprG A_g).vals).length) q73)]), (Iv (sprI A_g)), (Bo (sprB A_g))]) (u := (Iv (sprI A_g))) (ev rfl) rfl) (by dsimp only [List.set]; try rfl) ?_
  refine q_is rfl rfl (does_extract (vs := #[(.agg #[(Fl r62), (Fl r64), (Fl r66), (Fl r68), (Iv ((sprG A_g).x)), (Iv ((sprG A_g).y)), (Iv ((sprG A_g).z)), (.slice p72 (((sprG A_g).vals).length) q73)]), (Iv (sprI A_g)), (Bo (sprB A_g))]) (u := (Bo (sprB A_g))) (ev rfl) rfl) (by dsimp only [List.set]; try rfl) ?_
  refine seqd rfl rfl (does_alloc z31) ?_; rintro _ w79 ⟨b75, rfl, hb76, hB77, E78⟩
  have n80 : b15 < b75 := Nat.lt_of_lt_of_le (Blk.lt (((hB17.ext E24).ext E34).ext E56)) hb76
  have g81 : w.heap.size ≤ b75 := Nat.le_trans (Below.size X60) hb76
  change Blk _ _ [(Fl 0), (Fl 0), (Fl 0), (Fl 0), (Iv 0), (Iv 0), (Iv 0), (.slice none 0 0)] at hB77
  have X82 := Ext.gr X60 E78
  show wpList _ _ _ _ (fr [_, _, _, _, _, _, _, _, _, _, _, _, _, _, _, _, _, _, _, _, _, _, _, _, _, _, _, _, _, _, _, _, _, _, _, _, _, _, _, _, _, _, _, _, _, _, _, _, _, _, _, _, _, _, _, _, _, _, _, _, _, _, _, _, _, _, _, _, _, _, _, _, _, _, _, _, _, _, _, _, _, _, _, _, _, _, _, _, _, _, _, _, _, _, _, _, _, _, _, _, _, _, _, _, _, _, _, _, _, _, _, _, _, _, _, _, _]) _
  refine seqn rfl rfl (does_store (n := 8) (cs := [(Fl 0), (Fl 0), (Fl 0), (Fl 0), (Iv 0), (Iv 0), (Iv 0), (.slice none 0 0)]) (u := (.agg #[(Fl r62), (Fl r64), (Fl r66), (Fl r68), (Iv ((sprG A_g).x)), (Iv ((sprG A_g).y)), (Iv ((sprG A_g).z)), (.slice p72 (((sprG A_g).vals).length) q73)])) (ev rfl) (ev rfl) Try.sizeOf31 rfl hB77 (Nat.le_of_ble_eq_true rfl) rfl) ?_; rintro _ w85 ⟨rfl, W83, hB84⟩
  change Blk _ _ [(Fl r62), (Fl r64), (Fl r66), (Fl r68), (Iv ((sprG A_g).x)), (Iv ((sprG A_g).y)), (Iv ((sprG A_g).z)), (.slice p72 (((sprG A_g).vals).length) q73)] at hB84
  have X86 := Below.wr X82 W83 g81
  refine q_is rfl rfl (does_assign (u := (Iv (sprI A_g))) (ev rfl)) (by dsimp only [List.set]; try rfl) ?_
  refine q_is rfl rfl (does_assign (u := (Bo (sprB A_g))) (ev rfl)) (by dsimp only [List.set]; try rfl) ?_
  refine wpList_nil (hK33 _ _ ?_)
  refine wp_seq_k fun K87 hK87 => ?_
  refine wp_region_lit ?_
  refine q_is rfl rfl (does_loadAgg (cs := [(Fl r1), (Fl r3), (Fl r5), (Fl r7), (Iv A_g.x), (Iv A_g.y), (Iv A_g.z), (.slice p11 A_g.vals.length q12)]) (ev rfl) Try.isAgg27 Try.sizeOf27 (Blk.cells (((((hB17.ext E24).ext E34).ext E56).ext E78).wr W83 (Nat.ne_of_lt n80))) rfl) (by dsimp only [List.set]; try rfl) ?_
  refine seqd rfl rfl (does_call (args := #[(.agg #[(Fl r1), (Fl r3), (Fl r5), (Fl r7), (Iv A_g.x), (Iv A_g.y), (Iv A_g.z), (.slice p11 A_g.vals.length q12)])]) cal9 (evs rfl) (c_laws_toGrid [(Fl r1), (Fl r3), (Fl r5), (Fl r7), (Iv A_g.x), (Iv A_g.y), (Iv A_g.z), (.slice p11 A_g.vals.length q12)] A_g _ ⟨r1, r3, r5, r7, (.slice p11 A_g.vals.length q12), rfl, h2, h4, h6, h8, (Sl.ext hs13 RF.mono X86)⟩ (by omega))) ?_; rintro _ w89 ⟨E88, ⟨cs91, Lw92, rfl, hh90, hw93⟩⟩
  have X94 := Ext.gr X86 E88
  have n95 : b15 < w85.heap.size := Blk.lt (((((hB17.ext E24).ext E34).ext E56).ext E78).wr W83 (Nat.ne_of_lt n80))
  have n96 : b75 < w85.heap.size := Blk.lt hB84
  obtain ⟨r97, r99, r101, r103, y105, rfl, h98, h100, h102, h104, h106⟩ := hh90.get
  have h106l := Sl.len h106; obtain ⟨p107, q108, rfl⟩ := Sl.shape h106
  have hh109 : Hang w85.heap.size w89 (fun u => Sl RF 1 u (.slice p107 A_g.vals.length q108) A_g.vals) := fun u hu => by obtain ⟨_, _, _, _, _, hq, _, _, _, _, _⟩ := hh90 u hu; cases hq; assumption
  have hw110 : WL 1 w85.heap.size w89 Lw92 (.slice p107 A_g.vals.length q108) A_g.vals.length := hw93
  show wpList _ _ _ _ (fr [_, _, _, _, _, _, _, _, _, _, _, _, _, _, _, _, _, _, _, _, _, _, _, _, _, _, _, _, _, _, _, _, _, _, _, _, _, _, _, _, _, _, _, _, _, _, _, _, _, _, _, _, _, _, _, _, _, _, _, _, _, _, _, _, _, _, _, _, _, _, _, _, _, _, _, _, _, _, _, _, _, _, _, _, _, _, _, _, _, _, _, _, _, _, _, _, _, _, _, _, _, _, _, _, _, _, _, _, _, _, _, _, _, _, _, _, _]) _
  refine seqd rfl rfl (does_alloc z31) ?_; rintro _ w115 ⟨b111, rfl, hb112, hB113, E114⟩
  have n116 : b15 < b111 := Nat.lt_of_lt_of_le (Blk.lt ((((((hB17.ext E24).ext E34).ext E56).ext E78).wr W83 (Nat.ne_of_lt n80)).ext E88)) hb112
  have n117 : b75 < b111 := Nat.lt_of_lt_of_le (Blk.lt (hB84.ext E88)) hb112
  have g118 : w.heap.size ≤ b111 := Nat.le_trans (Below.size X94) hb112
  change Blk _ _ [(Fl 0), (Fl 0), (Fl 0), (Fl 0), (Iv 0), (Iv 0), (Iv 0), (.slice none 0 0)] at hB113
  have X119 := Ext.gr X94 E114
  show wpList _ _ _ _ (fr [_, _, _, _, _, _, _, _, _, _, _, _, _, _, _, _, _, _, _, _, _, _, _, _, _, _, _, _, _, _, _, _, _, _, _, _, _, _, _, _, _, _, _, _, _, _, _, _, _, _, _, _, _, _, _, _, _, _, _, _, _, _, _, _, _, _, _, _, _, _, _, _, _, _, _, _, _, _, _, _, _, _, _, _, _, _, _, _, _, _, _, _, _, _, _, _, _, _, _, _, _, _, _, _, _, _, _, _, _, _, _, _, _, _, _, _, _]) _
  refine seqn rfl rfl (does_store (n := 8) (cs := [(Fl 0), (Fl 0), (Fl 0), (Fl 0), (Iv 0), (Iv 0), (Iv 0), (.slice none 0 0)]) (u := (.agg #[(Fl r97), (Fl r99), (Fl r101), (Fl r103), (Iv A_g.x), (Iv A_g.y), (Iv A_g.z), (.slice p107 A_g.vals.length q108)])) (ev rfl) (ev rfl) Try.sizeOf31 rfl hB113 (Nat.le_of_ble_eq_true rfl) rfl) ?_; rintro _ w122 ⟨rfl, W120, hB121⟩
  change Blk _ _ [(Fl r97), (Fl r99), (Fl r101), (Fl r103), (Iv A_g.x), (Iv A_g.y), (Iv A_g.z), (.slice p107 A_g.vals.length q108)] at hB121
  have X123 := Below.wr X119 W120 g118
  refine wpList_nil (hK87 _ _ ?_)
  refine wp_seq_k fun K124 hK124 => ?_
  refine wp_region_lit ?_
  refine q_is rfl rfl (does_loadAgg (cs := [(Fl r97), (Fl r99), (Fl r101), (Fl r103), (Iv A_g.x), (Iv A_g.y), (Iv A_g.z), (.slice p107 A_g.vals.length q108)]) (ev rfl) Try.isAgg31 Try.sizeOf31 (Blk.cells hB121) rfl) (by dsimp only [List.set]; try rfl) ?_
  refine seqd rfl rfl (does_call (args := #[(.agg #[(Fl r97), (Fl r99), (Fl r101), (Fl r103), (Iv A_g.x), (Iv A_g.y), (Iv A_g.z), (.slice p107 A_g.vals.length q108)])]) cal22 (evs rfl) (c_impl_SpreadGrid [(Fl r97), (Fl r99), (Fl r101), (Fl r103), (Iv A_g.x), (Iv A_g.y), (Iv A_g.z), (.slice p107 A_g.vals.length q108)] A_g _ ⟨r97, r99, r101, r103, (.slice p107 A_g.vals.length q108), rfl, h98, h100, h102, h104, (hh109 _ (((Same.refl _ _).ext E114).wr W120 (.inr (Nat.le_trans (Nat.le_refl _) hb112))))⟩)) ?_; rintro _ w126 ⟨E125, ⟨cs128, Lw129, rfl, hh127, hw130⟩⟩
  have X131 := Ext.gr X123 E125
  have n132 : b15 < w122.heap.size := Blk.lt ((((((((hB17.ext E24).ext E34).ext E56).ext E78).wr W83 (Nat.ne_of_lt n80)).ext E88).ext E114).wr W120 (Nat.ne_of_lt n116))
  have n133 : b75 < w122.heap.size := Blk.lt (((hB84.ext E88).ext E114).wr W120 (Nat.ne_of_lt n117))
  have n134 : b111 < w122.heap.size := Blk.lt hB121
  obtain ⟨r135, r137, r139, r141, y143, rfl, h136, h138, h140, h142, h144⟩ := hh127.get
  have h144l := Sl.len h144; obtain ⟨p145, q146, rfl⟩ := Sl.shape h144
  have hh147 : Hang w122.heap.size w126 (fun u => Sl RF 1 u (.slice p145 (((sprG A_g).vals).length) q146) ((sprG A_g).vals)) := fun u hu => by obtain ⟨_, _, _, _, _, hq, _, _, _, _, _⟩ := hh127 u hu; cases hq; assumption
  have hw148 : WL 1 w122.heap.size w126 Lw129 (.slice p145 (((sprG A_g).vals).length) q146) ((sprG A_g).vals).length := hw130
  show wpList _ _ _ _ (fr [_, _, _, _, _, _, _, _, _, _, _, _, _, _, _, _, _, _, _, _, _, _, _, _, _, _, _, _, _, _, _, _, _, _, _, _, _, _, _, _, _, _, _, _, _, _, _, _, _, _, _, _, _, _, _, _, _, _, _, _, _, _, _, _, _, _, _, _, _, _, _, _, _, _, _, _, _, _, _, _, _, _, _, _, _, _, _, _, _, _, _, _, _, _, _, _, _, _, _, _, _, _, _, _, _, _, _, _, _, _, _, _, _, _, _, _, _]) _
  refine q_is rfl rfl (does_move (u := (.tuple #[(.agg #[(Fl r135), (Fl r137), (Fl r139), (Fl r141), (Iv ((sprG A_g).x)), (Iv ((sprG A_g).y)), (Iv ((sprG A_g).z)), (.slice p145 (((sprG A_g).vals).length) q146)]), (Iv (sprI A_g)), (Bo (sprB A_g))])) (ev rfl)) (by dsimp only [List.set]; try rfl) ?_
  refine q_is rfl rfl (does_extract (vs := #[(.agg #[(Fl r135), (Fl r137), (Fl r139), (Fl r141), (Iv ((sprG A_g).x)), (Iv ((sprG A_g).y)), (Iv ((sprG A_g).z)), (.slice p145 (((sprG A_g).vals).length) q146)]), (Iv (sprI A_g)), (Bo (sprB A_g))]) (u := (.agg #[(Fl r135), (Fl r137), (Fl r139), (Fl r141), (Iv ((sprG A_g).x)), (Iv ((sprG A_g).y)), (Iv ((sprG A_g).z)), (.slice p145 (((sprG A_g).vals).length) q146)])) (ev rfl) rfl) (by dsimp only [List.set]; try rfl) ?_
  refine q_is rfl rfl (does_extract (vs := #[(.agg #[(Fl r135), (Fl r137), (Fl r139), (Fl r141), (Iv ((sprG A_g).x)), (Iv ((sprG A_g).y)), (Iv ((sprG A_g).z)), (.slice p145 (((sprG A_g).vals).length) q146)]), (Iv (sprI A_g)), (Bo (sprB A_g))]) (u := (Iv (sprI A_g))) (ev rfl) rfl) (by dsimp only [List.set]; try rfl) ?_
  refine q_is rfl rfl (does_extract (vs := #[(.agg #[(Fl r135), (Fl r137), (Fl r139), (Fl r141), (Iv ((sprG A_g).x)), (Iv ((sprG A_g).y)), (Iv ((sprG A_g).z)), (.slice p145 (((sprG A_g).vals).length) q146)]), (Iv (sprI A_g)), (Bo (sprB A_g))]) (u := (Bo (sprB A_g))) (ev rfl) rfl) (by dsimp only [List.set]; try rfl) ?_
  refine seqd rfl rfl (does_alloc z31) ?_; rintro _ w153 ⟨b149, rfl, hb150, hB151, E152⟩
  have n154 : b15 < b149 := Nat.lt_of_lt_of_le (Blk.lt (((((((((hB17.ext E24).ext E34).ext E56).ext E78).wr W83 (Nat.ne_of_lt n80)).ext E88).ext E114).wr W120 (Nat.ne_of_lt n116)).ext E125)) hb150
  have n155 : b75 < b149 := Nat.lt_of_lt_of_le (Blk.lt ((((hB84.ext E88).ext E114).wr W120 (Nat.ne_of_lt n117)).ext E125)) hb150
  have n156 : b111 < b149 := Nat.lt_of_lt_of_le (Blk.lt (hB121.ext E125)) hb150
  have g157 : w.heap.size ≤ b149 := Nat.le_trans (Below.size X131) hb150
  change Blk _ _ [(Fl 0), (Fl 0), (Fl 0), (Fl 0), (Iv 0), (Iv 0), (Iv 0), (.slice none 0 0)] at hB151
  have X158 := Ext.gr X131 E152
  show wpList _ _ _ _ (fr [_, _, _, _, _, _, _, _, _, _, _, _, _, _, _, _, _, _, _, _, _, _, _, _, _, _, _, _, _, _, _, _, _, _, _, _, _, _, _, _, _, _, _, _, _, _, _, _, _, _, _, _, _, _, _, _, _, _, _, _, _, _, _, _, _, _, _, _, _, _, _, _, _, _, _, _, _, _, _, _, _, _, _, _, _, _, _, _, _, _, _, _, _, _, _, _, _, _, _, _, _, _, _, _, _, _, _, _, _, _, _, _, _, _, _, _, _]) _
  refine seqn rfl rfl (does_store (n := 8) (cs := [(Fl 0), (Fl 0), (Fl 0), (Fl 0), (Iv 0), (Iv 0), (Iv 0), (.slice none 0 0)]) (u := (.agg #[(Fl r135), (Fl r137), (Fl r139), (Fl r141), (Iv ((sprG A_g).x)), (Iv ((sprG A_g).y)), (Iv ((sprG A_g).z)), (.slice p145 (((sprG A_g).vals).length) q146)])) (ev rfl) (ev rfl) Try.sizeOf31 rfl hB151 (Nat.le_of_ble_eq_true rfl) rfl) ?_; rintro _ w161 ⟨rfl, W159, hB160⟩
  change Blk _ _ [(Fl r135), (Fl r137), (Fl r139), (Fl r141), (Iv ((sprG A_g).x)), (Iv ((sprG A_g).y)), (Iv ((sprG A_g).z)), (.slice p145 (((sprG A_g).vals).length) q146)] at hB160
  have X162 := Below.wr X158 W159 g157
  refine q_is rfl rfl (does_assign (u := (Iv (sprI A_g))) (ev rfl)) (by dsimp only [List.set]; try rfl) ?_
  refine q_is rfl rfl (does_assign (u := (Bo (sprB A_g))) (ev rfl)) (by dsimp only [List.set]; try rfl) ?_
  refine wpList_nil (hK124 _ _ ?_)
  refine wp_seq_k fun K163 hK163 => ?_
  refine wp_seq_k fun K164 hK164 => ?_
  obtain ⟨β1, hβ1⟩ : ∃ b : Bool, b = (sameG (sprG A_g) (sprG A_g)) := ⟨_, rfl⟩
  obtain ⟨β2, hβ2⟩ : ∃ b : Bool, b = (icmp .neq (sprI A_g) (sprI A_g)) := ⟨_, rfl⟩
  obtain ⟨β3, hβ3⟩ : ∃ b : Bool, b = (((!β1) || β2) || ((sprB A_g) != (sprB A_g))) := ⟨_, rfl⟩
  refine region_text (
    [Fact.pure [] (fun v => v = (.agg #[(Fl r135), (Fl r137), (Fl r139), (Fl r141), (Iv ((sprG A_g).x)), (Iv ((sprG A_g).y)), (Iv ((sprG A_g).z)), (.slice p145 (((sprG A_g).vals).length) q146)])),
    Fact.pure [] (fun v => v = (.agg #[(Fl r62), (Fl r64), (Fl r66), (Fl r68), (Iv ((sprG A_g).x)), (Iv ((sprG A_g).y)), (Iv ((sprG A_g).z)), (.slice p72 (((sprG A_g).vals).length) q73)])),
    Fact.pure [37, 38] (fun v => v = (Bo β1)),
    Fact.pure [39] (fun v => v = (Bo (!β1))),
    Fact.pure [40] (fun v => v = (Bo (!β1))),
    Fact.pure [41] (fun v => (!β1) = false → v = (Iv (sprI A_g))),
    Fact.pure [41] (fun v => (!β1) = false → v = (Iv (sprI A_g))),
    Fact.pure [42, 43, 41] (fun v => (!β1) = false → v = (Bo β2)),
    Fact.pure [41, 44] (fun v => v = (Bo ((!β1) || β2))),
    Fact.pure [45] (fun v => v = (Bo ((!β1) || β2))),
    Fact.pure [46] (fun v => ((!β1) || β2) = false → v = (Bo (sprB A_g))),
    Fact.pure [46] (fun v => ((!β1) || β2) = false → v = (Bo (sprB A_g))),
    Fact.pure [47, 48, 46] (fun v => ((!β1) || β2) = false → v = (Bo ((sprB A_g) != (sprB A_g)))),
    Fact.pure [46, 49] (fun v => v = (Bo β3))]) (by simp [Fact.pure, Fact.mem]) ?_
  refine RW_d _ rfl (fun v => by dsimp only [List.set]; try rfl) (fun u hu hF => ?_) (fun v165 => ?_)
  · clear hF
    refine doesG_un rfl ?_
    refine (does_loadAgg (cs := [(Fl r135), (Fl r137), (Fl r139), (Fl r141), (Iv ((sprG A_g).x)), (Iv ((sprG A_g).y)), (Iv ((sprG A_g).z)), (.slice p145 (((sprG A_g).vals).length) q146)]) (ev rfl) Try.isAgg31 Try.sizeOf31 (Blk.cells (hB160.ext hu)) rfl).mono ?_; rintro _ _ ⟨rfl, rfl⟩
    exact ⟨rfl, Ext.refl _⟩
  refine RW_d _ rfl (fun v => by dsimp only [List.set]; try rfl) (fun u hu hF => ?_) (fun v166 => ?_)
  · clear hF
    refine doesG_un rfl ?_
    refine (does_loadAgg (cs := [(Fl r62), (Fl r64), (Fl r66), (Fl r68), (Iv ((sprG A_g).x)), (Iv ((sprG A_g).y)), (Iv ((sprG A_g).z)), (.slice p72 (((sprG A_g).vals).length) q73)]) (ev rfl) Try.isAgg31 Try.sizeOf31 (Blk.cells (((((((hB84.ext E88).ext E114).wr W120 (Nat.ne_of_lt n117)).ext E125).ext E152).wr W159 (Nat.ne_of_lt n155)).ext hu)) rfl).mono ?_; rintro _ _ ⟨rfl, rfl⟩
    exact ⟨rfl, Ext.refl _⟩
  refine RW_d _ rfl (fun v => by dsimp only [List.set]; try rfl) (fun u hu hF => ?_) (fun v167 => ?_)
  · have h37_ : v165 = (.agg #[(Fl r135), (Fl r137), (Fl r139), (Fl r141), (Iv ((sprG A_g).x)), (Iv ((sprG A_g).y)), (Iv ((sprG A_g).z)), (.slice p145 (((sprG A_g).vals).length) q146)]) := hF.1
    have h38_ : v166 = (.agg #[(Fl r62), (Fl r64), (Fl r66), (Fl r68), (Iv ((sprG A_g).x)), (Iv ((sprG A_g).y)), (Iv ((sprG A_g).z)), (.slice p72 (((sprG A_g).vals).length) q73)]) := hF.2.1
    clear hF
    refine doesG_un rfl ?_
    obtain rfl := h37_
    obtain rfl := h38_
    refine (does_call (args := #[(.agg #[(Fl r135), (Fl r137), (Fl r139), (Fl r141), (Iv ((sprG A_g).x)), (Iv ((sprG A_g).y)), (Iv ((sprG A_g).z)), (.slice p145 (((sprG A_g).vals).length) q146)]), (.agg #[(Fl r62), (Fl r64), (Fl r66), (Fl r68), (Iv ((sprG A_g).x)), (Iv ((sprG A_g).y)), (Iv ((sprG A_g).z)), (.slice p72 (((sprG A_g).vals).length) q73)])]) cal11 (evs rfl) (c_laws_eqGrid [(Fl r135), (Fl r137), (Fl r139), (Fl r141), (Iv ((sprG A_g).x)), (Iv ((sprG A_g).y)), (Iv ((sprG A_g).z)), (.slice p145 (((sprG A_g).vals).length) q146)] (sprG A_g) [(Fl r62), (Fl r64), (Fl r66), (Fl r68), (Iv ((sprG A_g).x)), (Iv ((sprG A_g).y)), (Iv ((sprG A_g).z)), (.slice p72 (((sprG A_g).vals).length) q73)] (sprG A_g) _ ⟨r135, r137, r139, r141, (.slice p145 (((sprG A_g).vals).length) q146), rfl, h136, h138, h140, h142, (Sl.ext (hh147 _ (((Same.refl _ _).ext E152).wr W159 (.inr (Nat.le_trans (Nat.le_refl _) hb150)))) RF.mono hu)⟩ ⟨r62, r64, r66, r68, (.slice p72 (((sprG A_g).vals).length) q73), rfl, h63, h65, h67, h69, (Sl.ext (hh74 _ (((((((((Same.refl _ _).ext E78).wr W83 (.inr (Nat.le_trans (Nat.le_refl _) hb76))).ext E88).ext E114).wr W120 (.inr (Nat.le_trans (Nat.le_trans (Nat.le_trans (Below.size E78) (Nat.le_of_eq (Eq.symm (Wr.size W83)))) (Below.size E88)) hb112))).ext E125).ext E152).wr W159 (.inr (Nat.le_trans (Nat.le_trans (Nat.le_trans (Nat.le_trans (Nat.le_trans (Nat.le_trans (Below.size E78) (Nat.le_of_eq (Eq.symm (Wr.size W83)))) (Below.size E88)) (Below.size E114)) (Nat.le_of_eq (Eq.symm (Wr.size W120)))) (Below.size E125)) hb150)))) RF.mono hu)⟩)).mono ?_; rintro v u' ⟨hx, hv⟩
    exact ⟨hv.trans (by simp only [hβ1]), hx⟩
  refine RW_d _ rfl (fun v => by dsimp only [List.set]; try rfl) (fun u hu hF => ?_) (fun v168 => ?_)
  · have h39_ : v167 = (Bo β1) := hF.1
    clear hF
    refine doesG_un rfl ?_
    obtain rfl := h39_
    refine (does_not (ev rfl)).mono ?_; rintro _ _ ⟨rfl, rfl⟩
    exact ⟨rfl, Ext.refl _⟩
  refine RW_d _ rfl (fun v => by dsimp only [List.set]; try rfl) (fun u hu hF => ?_) (fun v169 => ?_)
  · have h40_ : v168 = (Bo (!β1)) := hF.1
    clear hF
    refine doesG_un rfl ?_
    obtain rfl := h40_
    refine (does_move (u := (Bo (!β1))) (ev rfl)).mono ?_; rintro _ _ ⟨rfl, rfl⟩
    exact ⟨rfl, Ext.refl _⟩
  refine RW_d _ rfl (fun v => by dsimp only [List.set]; try rfl) (fun u hu hF => ?_) (fun v170 => ?_)
  · have h41_ : v169 = (Bo (!β1)) := hF.1
    clear hF
    obtain rfl := h41_
    refine doesG_g (b := (!β1)) rfl (yld rfl rfl) (fun hg1 => ?_) (fun hc => ⟨fun hg1 => absurd hg1 hc, Ext.refl _⟩)
    refine (does_move (u := (Iv (sprI A_g))) (ev rfl)).mono ?_; rintro _ _ ⟨rfl, rfl⟩
    exact ⟨fun _ => rfl, Ext.refl _⟩
  refine RW_d _ rfl (fun v => by dsimp only [List.set]; try rfl) (fun u hu hF => ?_) (fun v171 => ?_)
  · have h41_ : v169 = (Bo (!β1)) := hF.1
    clear hF
    obtain rfl := h41_
    refine doesG_g (b := (!β1)) rfl (yld rfl rfl) (fun hg1 => ?_) (fun hc => ⟨fun hg1 => absurd hg1 hc, Ext.refl _⟩)
    refine (does_move (u := (Iv (sprI A_g))) (ev rfl)).mono ?_; rintro _ _ ⟨rfl, rfl⟩
    exact ⟨fun _ => rfl, Ext.refl _⟩
  refine RW_d _ rfl (fun v => by dsimp only [List.set]; try rfl) (fun u hu hF => ?_) (fun v172 => ?_)
  · have h42_ : (!β1) = false → v170 = (Iv (sprI A_g)) := hF.1
    have h43_ : (!β1) = false → v171 = (Iv (sprI A_g)) := hF.2.1
    have h41_ : v169 = (Bo (!β1)) := hF.2.2.1
    clear hF
    obtain rfl := h41_
    refine doesG_g (b := (!β1)) rfl (yld rfl rfl) (fun hg1 => ?_) (fun hc => ⟨fun hg1 => absurd hg1 hc, Ext.refl _⟩)
    obtain rfl := h42_ hg1
    obtain rfl := h43_ hg1
    refine (does_icmp (p := sprI A_g) (q := sprI A_g) (.inr (.inl rfl)) (ev rfl) (ev rfl)).mono ?_; rintro _ _ ⟨rfl, rfl⟩
    exact ⟨fun _ => (by first | rfl | (show _ = _; simp only [hβ2]; done) | (show _ = _; simp only [hβ2]; rfl)), Ext.refl _⟩
  refine RW_d _ rfl (fun v => by dsimp only [List.set]; try rfl) (fun u hu hF => ?_) (fun v173 => ?_)
  · have h41_ : v169 = (Bo (!β1)) := hF.1
    have h44_ : (!β1) = false → v172 = (Bo β2) := hF.2.1
    clear hF
    refine doesG_un rfl ?_
    skip
    obtain rfl := h41_
    refine (does_pick (b := (!β1)) (ev rfl) (ev rfl) (ev rfl)).mono ?_; rintro _ _ ⟨rfl, rfl⟩; refine ⟨?_, Ext.refl _⟩; skip
    cases hbb : (!β1)
    all_goals first | rfl | (have e_ := h44_ hbb; subst e_; rfl) | (simp [hbb] at h44_ ⊢; first | done | rfl | (subst h44_; rfl) | simp_all) | (simp [hbb] at h44_ ⊢; done)
  refine RW_d _ rfl (fun v => by dsimp only [List.set]; try rfl) (fun u hu hF => ?_) (fun v174 => ?_)
  · have h45_ : v173 = (Bo ((!β1) || β2)) := hF.1
    clear hF
    refine doesG_un rfl ?_
    obtain rfl := h45_
    refine (does_move (u := (Bo ((!β1) || β2))) (ev rfl)).mono ?_; rintro _ _ ⟨rfl, rfl⟩
    exact ⟨rfl, Ext.refl _⟩
  refine RW_d _ rfl (fun v => by dsimp only [List.set]; try rfl) (fun u hu hF => ?_) (fun v175 => ?_)
  · have h46_ : v174 = (Bo ((!β1) || β2)) := hF.1
    clear hF
    obtain rfl := h46_
    refine doesG_g (b := ((!β1) || β2)) rfl (yld rfl rfl) (fun hg1 => ?_) (fun hc => ⟨fun hg1 => absurd hg1 hc, Ext.refl _⟩)
    refine (does_move (u := (Bo (sprB A_g))) (ev rfl)).mono ?_; rintro _ _ ⟨rfl, rfl⟩
    exact ⟨fun _ => rfl, Ext.refl _⟩
  refine RW_d _ rfl (fun v => by dsimp only [List.set]; try rfl) (fun u hu hF => ?_) (fun v176 => ?_)
  · have h46_ : v174 = (Bo ((!β1) || β2)) := hF.1
    clear hF
    obtain rfl := h46_
    refine doesG_g (b := ((!β1) || β2)) rfl (yld rfl rfl) (fun hg1 => ?_) (fun hc => ⟨fun hg1 => absurd hg1 hc, Ext.refl _⟩)
    refine (does_move (u := (Bo (sprB A_g))) (ev rfl)).mono ?_; rintro _ _ ⟨rfl, rfl⟩
    exact ⟨fun _ => rfl, Ext.refl _⟩
  refine RW_d _ rfl (fun v => by dsimp only [List.set]; try rfl) (fun u hu hF => ?_) (fun v177 => ?_)
  · have h47_ : ((!β1) || β2) = false → v175 = (Bo (sprB A_g)) := hF.1
    have h48_ : ((!β1) || β2) = false → v176 = (Bo (sprB A_g)) := hF.2.1
    have h46_ : v174 = (Bo ((!β1) || β2)) := hF.2.2.1
    clear hF
    obtain rfl := h46_
    refine doesG_g (b := ((!β1) || β2)) rfl (yld rfl rfl) (fun hg1 => ?_) (fun hc => ⟨fun hg1 => absurd hg1 hc, Ext.refl _⟩)
    obtain rfl := h47_ hg1
    obtain rfl := h48_ hg1
    refine (does_bne (p := (sprB A_g)) (q := (sprB A_g)) Try.underlying4 (ev rfl) (ev rfl)).mono ?_; rintro _ _ ⟨rfl, rfl⟩
    exact ⟨fun _ => rfl, Ext.refl _⟩
  refine RW_d _ rfl (fun v => by dsimp only [List.set]; try rfl) (fun u hu hF => ?_) (fun v178 => ?_)
  · have h46_ : v174 = (Bo ((!β1) || β2)) := hF.1
    have h49_ : ((!β1) || β2) = false → v177 = (Bo ((sprB A_g) != (sprB A_g))) := hF.2.1
    clear hF
    refine doesG_un rfl ?_
    skip
    obtain rfl := h46_
    refine (does_pick (b := ((!β1) || β2)) (ev rfl) (ev rfl) (ev rfl)).mono ?_; rintro _ _ ⟨rfl, rfl⟩; refine ⟨?_, Ext.refl _⟩; rw [hβ3]; skip
    cases hbb : ((!β1) || β2)
    all_goals first | rfl | (have e_ := h49_ hbb; subst e_; rfl) | (simp [hbb] at h49_ ⊢; first | done | rfl | (subst h49_; rfl) | simp_all) | (simp [hbb] at h49_ ⊢; done)
  refine RW_fin ?_; intro w179 E180 hP181
  obtain ⟨⟨⟨⟨⟨⟨⟨⟨⟨⟨⟨⟨⟨⟨-, -⟩, -⟩, -⟩, -⟩, -⟩, -⟩, -⟩, -⟩, -⟩, -⟩, -⟩, -⟩, -⟩, q182⟩ := hP181
  have X183 := Ext.gr X162 E180
  have q182 : v178 = (Bo β3) := q182
  obtain rfl := q182
  show wpList _ _ _ _ (fr [_, _, _, _, _, _, _, _, _, _, _, _, _, _, _, _, _, _, _, _, _, _, _, _, _, _, _, _, _, _, _, _, _, _, _, _, _, _, _, _, _, _, _, _, _, _, _, _, _, _, _, _, _, _, _, _, _, _, _, _, _, _, _, _, _, _, _, _, _, _, _, _, _, _, _, _, _, _, _, _, _, _, _, _, _, _, _, _, _, _, _, _, _, _, _, _, _, _, _, _, _, _, _, _, _, _, _, _, _, _, _, _, _, _, _, _, _]) _
  refine wpList_nil (hK164 _ _ ?_)
  refine wp_cond_split (t := β3) (ev rfl) (fun c184 => ?_) (fun c184 => ?_)
  · have c184' := c184
    (try simp only [hβ1, hβ2, hβ3, sameG_self, bne_self_eq_false] at c184')
    (try simp only [hβ1, hβ2, hβ3] at c184')
    (try simp only [icmp, Bool.and_eq_true, Bool.or_eq_true, Bool.and_eq_false_iff, Bool.or_eq_false_iff, Bool.not_eq_true', Bool.not_eq_false', decide_eq_true_eq, decide_eq_false_iff_not, beq_iff_eq, bne_iff_ne, beq_eq_false_iff_ne, bne_eq_false_iff_eq] at c184')
    refine wp_seq_k fun K185 hK185 => ?_
    refine wp_region_lit ?_
    refine q_is rfl rfl (does_assign (u := (Bo false)) (ev rfl)) (by dsimp only [List.set]; try rfl) ?_
    refine wpList_nil (hK185 _ _ ?_)
    refine wp_ret ?_
    dsimp only [Exit.then, Exit.inBlock]
    refine ret_val (v := (Bo false)) (res_T rfl (slot rfl)) X183 ?_
    try simp only [h2, h4, h6, h8, h43, h45, h47, h49, h63, h65, h67, h69, h98, h100, h102, h104, h136, h138, h140, h142, hβ1, hβ2, hβ3, sameG_self, bne_self_eq_false] at c31 c184
    have x186 : true = false := by first | with_reducible rfl | (exfalso; omega) | (exfalso; simp only [mkL_len] at * <;> omega) | (exfalso; rcases c184' with ((hh | hh) | hh) | hh <;> first | omega | (exact Bool.noConfusion hh) | (exact absurd rfl hh)) | (exfalso; rcases c184' with (hh | hh) | hh <;> first | omega | (exact Bool.noConfusion hh)) | (exfalso; rcases c184' with hh | hh <;> first | omega | (exact Bool.noConfusion hh)) | (simp only [sameG_self, bne_self_eq_false, icmp, h2, h4, h6, h8, h43, h45, h47, h49, h63, h65, h67, h69, h98, h100, h102, h104, h136, h138, h140, h142, hβ1, hβ2, hβ3, c31, c184]; done) | (simp [sameG_self, bne_self_eq_false, icmp, h2, h4, h6, h8, h43, h45, h47, h49, h63, h65, h67, h69, h98, h100, h102, h104, h136, h138, h140, h142, hβ1, hβ2, hβ3, c31, c184]; done) | (simp_all; done) | (exfalso; simp_all; done)
    exact (by first | rfl | rw [x186])
  have c184' := c184
  (try simp only [hβ1, hβ2, hβ3, sameG_self, bne_self_eq_false] at c184')
  (try simp only [hβ1, hβ2, hβ3] at c184')
  (try simp only [icmp, Bool.and_eq_true, Bool.or_eq_true, Bool.and_eq_false_iff, Bool.or_eq_false_iff, Bool.not_eq_true', Bool.not_eq_false', decide_eq_true_eq, decide_eq_false_iff_not, beq_iff_eq, bne_iff_ne, beq_eq_false_iff_ne, bne_eq_false_iff_eq] at c184')
  refine wp_skip (hK163 _ _ ?_)
  refine wp_seq_k fun K187 hK187 => ?_
  refine wp_seq_k fun K188 hK188 => ?_
  refine region_draw (
    [Fact.pure [] (fun v => v = (.agg #[(Fl r97), (Fl r99), (Fl r101), (Fl r103), (Iv A_g.x), (Iv A_g.y), (Iv A_g.z), (.slice p107 A_g.vals.length q108)])),
    Fact.pure [] (fun v => v = (.agg #[(Fl r1), (Fl r3), (Fl r5), (Fl r7), (Iv A_g.x), (Iv A_g.y), (Iv A_g.z), (.slice p11 A_g.vals.length q12)])),
    Fact.mem [52] (fun v w' => ∃ cs_1 : List Value, ∃ Lw_2 : List Nat, v = (.agg cs_1.toArray) ∧ Hang w179.heap.size w' (fun u => RGridT u A_g cs_1) ∧ WL 1 w179.heap.size w' Lw_2 (cellN cs_1 7) A_g.vals.length) (by rintro v w1 w2 hx ⟨z1, z2, rfl, k0, k1⟩; exact ⟨_, _, rfl, (k0.ext hx), (k1.same (Same.of_ext hx))⟩),
    Fact.pure [51, 53] (fun v => v = (Bo (sameG A_g A_g))),
    Fact.pure [54] (fun v => v = (Bo (!(sameG A_g A_g))))]) mixed (by kernel_rfl) (by intro _ _ d _ _ h; cases d <;> exact h) ?_
  obtain ⟨w189, hw191⟩ : ∃ w', w' = World.drew w179 := ⟨_, rfl⟩; rw [← hw191]; have E190 : Ext w179 w189 := by rw [hw191]; exact Ext.draw _
  clear hw191
  have X192 := Ext.gr X183 E190
  refine RW_d _ rfl (fun v => by dsimp only [List.set]; try rfl) (fun u hu hF => ?_) (fun v193 => ?_)
  · clear hF
    refine doesG_un rfl ?_
    refine (does_loadAgg (cs := [(Fl r97), (Fl r99), (Fl r101), (Fl r103), (Iv A_g.x), (Iv A_g.y), (Iv A_g.z), (.slice p107 A_g.vals.length q108)]) (ev rfl) Try.isAgg31 Try.sizeOf31 (Blk.cells ((((((hB121.ext E125).ext E152).wr W159 (Nat.ne_of_lt n156)).ext E180).ext E190).ext hu)) rfl).mono ?_; rintro _ _ ⟨rfl, rfl⟩
    exact ⟨rfl, Ext.refl _⟩
  refine RW_d _ rfl (fun v => by dsimp only [List.set]; try rfl) (fun u hu hF => ?_) (fun v194 => ?_)
  · clear hF
    refine doesG_un rfl ?_
    refine (does_loadAgg (cs := [(Fl r1), (Fl r3), (Fl r5), (Fl r7), (Iv A_g.x), (Iv A_g.y), (Iv A_g.z), (.slice p11 A_g.vals.length q12)]) (ev rfl) Try.isAgg27 Try.sizeOf27 (Blk.cells ((((((((((((((hB17.ext E24).ext E34).ext E56).ext E78).wr W83 (Nat.ne_of_lt n80)).ext E88).ext E114).wr W120 (Nat.ne_of_lt n116)).ext E125).ext E152).wr W159 (Nat.ne_of_lt n154)).ext E180).ext E190).ext hu)) rfl).mono ?_; rintro _ _ ⟨rfl, rfl⟩
    exact ⟨rfl, Ext.refl _⟩
  refine RW_d _ rfl (fun v => by dsimp only [List.set]; try rfl) (fun u hu hF => ?_) (fun v195 => ?_)
  · have h52_ : v194 = (.agg #[(Fl r1), (Fl r3), (Fl r5), (Fl r7), (Iv A_g.x), (Iv A_g.y), (Iv A_g.z), (.slice p11 A_g.vals.length q12)]) := hF.1
    clear hF
    refine doesG_un rfl ?_
    obtain rfl := h52_
    refine (does_call (args := #[(.agg #[(Fl r1), (Fl r3), (Fl r5), (Fl r7), (Iv A_g.x), (Iv A_g.y), (Iv A_g.z), (.slice p11 A_g.vals.length q12)])]) cal9 (evs rfl) (c_laws_toGrid [(Fl r1), (Fl r3), (Fl r5), (Fl r7), (Iv A_g.x), (Iv A_g.y), (Iv A_g.z), (.slice p11 A_g.vals.length q12)] A_g _ ⟨r1, r3, r5, r7, (.slice p11 A_g.vals.length q12), rfl, h2, h4, h6, h8, (Sl.ext (Sl.ext hs13 RF.mono (Ext.gr X183 E190)) RF.mono hu)⟩ (by omega))).mono ?_; rintro v u' ⟨hx, ⟨csn1, Lwn2, hv, k0, k1⟩⟩
    exact ⟨⟨csn1, Lwn2, hv, (Hang.le k0 (Nat.le_trans (Below.size E190) (Below.size hu))), (WL.le k1 (Nat.le_trans (Below.size E190) (Below.size hu)))⟩, hx⟩
  refine RW_d _ rfl (fun v => by dsimp only [List.set]; try rfl) (fun u hu hF => ?_) (fun v196 => ?_)
  · have h51_ : v193 = (.agg #[(Fl r97), (Fl r99), (Fl r101), (Fl r103), (Iv A_g.x), (Iv A_g.y), (Iv A_g.z), (.slice p107 A_g.vals.length q108)]) := hF.1
    have h53_ : ∃ cs_1 : List Value, ∃ Lw_2 : List Nat, v195 = (.agg cs_1.toArray) ∧ Hang w179.heap.size u (fun u => RGridT u A_g cs_1) ∧ WL 1 w179.heap.size u Lw_2 (cellN cs_1 7) A_g.vals.length := hF.2.1
    clear hF
    refine doesG_un rfl ?_
    obtain rfl := h51_
    obtain ⟨cs53_2, Lw53_3, rfl, hh53_1, hw53_4⟩ := h53_
    obtain ⟨r53_5, r53_7, r53_9, r53_11, y53_13, rfl, h53_6, h53_8, h53_10, h53_12, h53_14⟩ := hh53_1.get
    have hh53_14 := h53_14; obtain ⟨p53_15, q53_16, rfl⟩ := Sl.shape h53_14
    refine (does_call (args := #[(.agg #[(Fl r97), (Fl r99), (Fl r101), (Fl r103), (Iv A_g.x), (Iv A_g.y), (Iv A_g.z), (.slice p107 A_g.vals.length q108)]), (.agg #[(Fl r53_5), (Fl r53_7), (Fl r53_9), (Fl r53_11), (Iv A_g.x), (Iv A_g.y), (Iv A_g.z), (.slice p53_15 A_g.vals.length q53_16)])]) cal11 (evs rfl) (c_laws_eqGrid [(Fl r97), (Fl r99), (Fl r101), (Fl r103), (Iv A_g.x), (Iv A_g.y), (Iv A_g.z), (.slice p107 A_g.vals.length q108)] A_g [(Fl r53_5), (Fl r53_7), (Fl r53_9), (Fl r53_11), (Iv A_g.x), (Iv A_g.y), (Iv A_g.z), (.slice p53_15 A_g.vals.length q53_16)] A_g _ ⟨r97, r99, r101, r103, (.slice p107 A_g.vals.length q108), rfl, h98, h100, h102, h104, (Sl.ext (hh109 _ ((((((((Same.refl _ _).ext E114).wr W120 (.inr (Nat.le_trans (Nat.le_refl _) hb112))).ext E125).ext E152).wr W159 (.inr (Nat.le_trans (Nat.le_trans (Nat.le_trans (Below.size E114) (Nat.le_of_eq (Eq.symm (Wr.size W120)))) (Below.size E125)) hb150))).ext E180).ext E190)) RF.mono hu)⟩ ⟨r53_5, r53_7, r53_9, r53_11, (.slice p53_15 A_g.vals.length q53_16), rfl, (by assumption), (by assumption), (by assumption), (by assumption), hh53_14⟩)).mono ?_; rintro v u' ⟨hx, hv⟩
    exact ⟨hv.trans (by simp only [h53_6, h53_8, h53_10, h53_12]), hx⟩
  refine RW_d _ rfl (fun v => by dsimp only [List.set]; try rfl) (fun u hu hF => ?_) (fun v197 => ?_)
  · have h54_ : v196 = (Bo (sameG A_g A_g)) := hF.1
    clear hF
    refine doesG_un rfl ?_
    obtain rfl := h54_
    refine (does_not (ev rfl)).mono ?_; rintro _ _ ⟨rfl, rfl⟩
    exact ⟨rfl, Ext.refl _⟩
  refine RW_fin ?_; intro w198 E199 hP200
  obtain ⟨⟨⟨⟨⟨-, -⟩, -⟩, -⟩, -⟩, q201⟩ := hP200
  have X202 := Ext.gr X192 E199
  have q201 : v197 = (Bo (!(sameG A_g A_g))) := q201
  obtain rfl := q201
  show wpList _ _ _ _ (fr [_, _, _, _, _, _, _, _, _, _, _, _, _, _, _, _, _, _, _, _, _, _, _, _, _, _, _, _, _, _, _, _, _, _, _, _, _, _, _, _, _, _, _, _, _, _, _, _, _, _, _, _, _, _, _, _, _, _, _, _, _, _, _, _, _, _, _, _, _, _, _, _, _, _, _, _, _, _, _, _, _, _, _, _, _, _, _, _, _, _, _, _, _, _, _, _, _, _, _, _, _, _, _, _, _, _, _, _, _, _, _, _, _, _, _, _, _]) _
  refine wpList_nil (hK188 _ _ ?_)
  refine wp_cond_split (t := !(sameG A_g A_g)) (ev rfl) (fun c203 => ?_) (fun c203 => ?_)
  · rw [Bool.not_eq_true'] at c203
    have c203' := c203
    (try simp only [hβ1, hβ2, hβ3, sameG_self, bne_self_eq_false] at c203')
    (try simp only [hβ1, hβ2, hβ3] at c203')
    (try simp only [icmp, Bool.and_eq_true, Bool.or_eq_true, Bool.and_eq_false_iff, Bool.or_eq_false_iff, Bool.not_eq_true', Bool.not_eq_false', decide_eq_true_eq, decide_eq_false_iff_not, beq_iff_eq, bne_iff_ne, beq_eq_false_iff_ne, bne_eq_false_iff_eq] at c203')
    refine wp_seq_k fun K204 hK204 => ?_
    refine wp_region_lit ?_
    refine q_is rfl rfl (does_assign (u := (Bo false)) (ev rfl)) (by dsimp only [List.set]; try rfl) ?_
    refine wpList_nil (hK204 _ _ ?_)
    refine wp_ret ?_
    dsimp only [Exit.then, Exit.inBlock]
    refine ret_val (v := (Bo false)) (res_T rfl (slot rfl)) X202 ?_
    try simp only [h2, h4, h6, h8, h43, h45, h47, h49, h63, h65, h67, h69, h98, h100, h102, h104, h136, h138, h140, h142, hβ1, hβ2, hβ3, sameG_self, bne_self_eq_false] at c31 c184 c203
    have x205 : true = false := by first | with_reducible rfl | (exfalso; omega) | (exfalso; simp only [mkL_len] at * <;> omega) | (exfalso; rcases c203' with ((hh | hh) | hh) | hh <;> first | omega | (exact Bool.noConfusion hh) | (exact absurd rfl hh)) | (exfalso; rcases c203' with (hh | hh) | hh <;> first | omega | (exact Bool.noConfusion hh)) | (exfalso; rcases c203' with hh | hh <;> first | omega | (exact Bool.noConfusion hh)) | (simp only [sameG_self, bne_self_eq_false, icmp, h2, h4, h6, h8, h43, h45, h47, h49, h63, h65, h67, h69, h98, h100, h102, h104, h136, h138, h140, h142, hβ1, hβ2, hβ3, c31, c184, c203]; done) | (simp [sameG_self, bne_self_eq_false, icmp, h2, h4, h6, h8, h43, h45, h47, h49, h63, h65, h67, h69, h98, h100, h102, h104, h136, h138, h140, h142, hβ1, hβ2, hβ3, c31, c184, c203]; done) | (simp_all; done) | (exfalso; simp_all; done)
    exact (by first | rfl | rw [x205])
  rw [Bool.not_eq_false'] at c203
  have c203' := c203
  (try simp only [hβ1, hβ2, hβ3, sameG_self, bne_self_eq_false] at c203')
  (try simp only [hβ1, hβ2, hβ3] at c203')
  (try simp only [icmp, Bool.and_eq_true, Bool.or_eq_true, Bool.and_eq_false_iff, Bool.or_eq_false_iff, Bool.not_eq_true', Bool.not_eq_false', decide_eq_true_eq, decide_eq_false_iff_not, beq_iff_eq, bne_iff_ne, beq_eq_false_iff_ne, bne_eq_false_iff_eq] at c203')
  refine wp_skip (hK187 _ _ ?_)
  refine wp_seq_k fun K206 hK206 => ?_
  refine wp_region_lit ?_
  refine q_is rfl rfl (does_assign (u := (Iv 1)) (ev rfl)) (by dsimp only [List.set]; try rfl) ?_
  refine wpList_nil (hK206 _ _ ?_)
  refine wp_seq_k fun K207 hK207 => ?_
  refine wp_region_lit ?_
  refine q_is rfl rfl (does_loadAgg (cs := [(Fl r97), (Fl r99), (Fl r101), (Fl r103), (Iv A_g.x), (Iv A_g.y), (Iv A_g.z), (.slice p107 A_g.vals.length q108)]) (ev rfl) Try.isAgg31 Try.sizeOf31 (Blk.cells ((((((hB121.ext E125).ext E152).wr W159 (Nat.ne_of_lt n156)).ext E180).ext E190).ext E199)) rfl) (by dsimp only [List.set]; try rfl) ?_
  refine q_is rfl rfl (does_move (u := (Iv 1)) (ev rfl)) (by dsimp only [List.set]; try rfl) ?_
  refine seqd rfl rfl (does_callK (args := #[(.agg #[(Fl r97), (Fl r99), (Fl r101), (Fl r103), (Iv A_g.x), (Iv A_g.y), (Iv A_g.z), (.slice p107 A_g.vals.length q108)]), (Iv 1)]) cal12 (evs rfl) (c_laws_markGrid (Fl r97) (Fl r99) (Fl r101) (Fl r103) (Iv A_g.x) (Iv A_g.y) (Iv A_g.z) (.slice p107 A_g.vals.length q108) A_g.vals.length Lw92 w85.heap.size 1 _ (hw110.same (((((((((Same.refl _ _).ext E114).wr W120 (.inr (Nat.le_trans (Nat.le_refl _) hb112))).ext E125).ext E152).wr W159 (.inr (Nat.le_trans (Nat.le_trans (Nat.le_trans (Below.size E114) (Nat.le_of_eq (Eq.symm (Wr.size W120)))) (Below.size E125)) hb150))).ext E180).ext E190).ext E199)) (by omega) (by first | omega | omega))) ?_; rintro _ w208 ⟨K209, rfl, hM210⟩
  have X211 := Below.kl X202 K209 (fun c hc => Nat.le_trans (Below.size (Below.wr (Ext.gr (Ext.gr (Ext.gr (Ext.gr (Ext.gr (Ext.refl _) E18) E24) E34) E56) E78) W83 g81)) (hw110.1 c hc).1) (Nat.le_refl _)
  show wpList _ _ _ _ (fr [_, _, _, _, _, _, _, _, _, _, _, _, _, _, _, _, _, _, _, _, _, _, _, _, _, _, _, _, _, _, _, _, _, _, _, _, _, _, _, _, _, _, _, _, _, _, _, _, _, _, _, _, _, _, _, _, _, _, _, _, _, _, _, _, _, _, _, _, _, _, _, _, _, _, _, _, _, _, _, _, _, _, _, _, _, _, _, _, _, _, _, _, _, _, _, _, _, _, _, _, _, _, _, _, _, _, _, _, _, _, _, _, _, _, _, _, _]) _
  refine q_is rfl rfl (does_assign (u := (Iv (1 + (A_g.vals.length : Int) * 1))) (ev rfl)) (by dsimp only [List.set]; try rfl) ?_
  refine wpList_nil (hK207 _ _ ?_)
  refine wp_seq_k fun K214 hK214 => ?_
  refine wp_seq_k fun K215 hK215 => ?_
  obtain ⟨β4, hβ4⟩ : ∃ b : Bool, b = (icmp .lss (1 + (A_g.vals.length : Int) * 1) 0) := ⟨_, rfl⟩
  obtain ⟨β5, hβ5⟩ : ∃ b : Bool, b = (sameG (sprG A_g) (sprG A_g)) := ⟨_, rfl⟩
  obtain ⟨β6, hβ6⟩ : ∃ b : Bool, b = (icmp .neq (sprI A_g) (sprI A_g)) := ⟨_, rfl⟩
  obtain ⟨β7, hβ7⟩ : ∃ b : Bool, b = (((β4 || (!β5)) || β6) || ((sprB A_g) != (sprB A_g))) := ⟨_, rfl⟩
  refine region_text (
    [Fact.pure [] (fun v => v = (Iv (1 + (A_g.vals.length : Int) * 1))),
    Fact.pure [59] (fun v => v = (Bo β4)),
    Fact.pure [60] (fun v => v = (Bo β4)),
    Fact.pure [61] (fun v => β4 = false → v = (.agg #[(Fl r135), (Fl r137), (Fl r139), (Fl r141), (Iv ((sprG A_g).x)), (Iv ((sprG A_g).y)), (Iv ((sprG A_g).z)), (.slice p145 (((sprG A_g).vals).length) q146)])),
    Fact.pure [61] (fun v => β4 = false → v = (.agg #[(Fl r62), (Fl r64), (Fl r66), (Fl r68), (Iv ((sprG A_g).x)), (Iv ((sprG A_g).y)), (Iv ((sprG A_g).z)), (.slice p72 (((sprG A_g).vals).length) q73)])),
    Fact.pure [62, 63, 61] (fun v => β4 = false → v = (Bo β5)),
    Fact.pure [64, 61] (fun v => β4 = false → v = (Bo (!β5))),
    Fact.pure [61, 65] (fun v => v = (Bo (β4 || (!β5)))),
    Fact.pure [66] (fun v => v = (Bo (β4 || (!β5)))),
    Fact.pure [67] (fun v => (β4 || (!β5)) = false → v = (Iv (sprI A_g))),
    Fact.pure [67] (fun v => (β4 || (!β5)) = false → v = (Iv (sprI A_g))),
    Fact.pure [68, 69, 67] (fun v => (β4 || (!β5)) = false → v = (Bo β6)),
    Fact.pure [67, 70] (fun v => v = (Bo ((β4 || (!β5)) || β6))),
    Fact.pure [71] (fun v => v = (Bo ((β4 || (!β5)) || β6))),
    Fact.pure [72] (fun v => ((β4 || (!β5)) || β6) = false → v = (Bo (sprB A_g))),
    Fact.pure [72] (fun v => ((β4 || (!β5)) || β6) = false → v = (Bo (sprB A_g))),
    Fact.pure [73, 74, 72] (fun v => ((β4 || (!β5)) || β6) = false → v = (Bo ((sprB A_g) != (sprB A_g)))),
    Fact.pure [72, 75] (fun v => v = (Bo β7))]) (by simp [Fact.pure, Fact.mem]) ?_
  refine RW_d _ rfl (fun v => by dsimp only [List.set]; try rfl) (fun u hu hF => ?_) (fun v216 => ?_)
  · clear hF
    refine doesG_un rfl ?_
    refine (does_move (u := (Iv (1 + (A_g.vals.length : Int) * 1))) (ev rfl)).mono ?_; rintro _ _ ⟨rfl, rfl⟩
    exact ⟨rfl, Ext.refl _⟩
  refine RW_d _ rfl (fun v => by dsimp only [List.set]; try rfl) (fun u hu hF => ?_) (fun v217 => ?_)
  · have h59_ : v216 = (Iv (1 + (A_g.vals.length : Int) * 1)) := hF.1
    clear hF
    refine doesG_un rfl ?_
    obtain rfl := h59_
    refine (does_icmp (p := 1 + (A_g.vals.length : Int) * 1) (q := 0) (.inr (.inr (.inl rfl))) (ev rfl) (ev rfl)).mono ?_; rintro _ _ ⟨rfl, rfl⟩
    exact ⟨(by first | rfl | (show _ = _; simp only [hβ4]; done) | (show _ = _; simp only [hβ4]; rfl)), Ext.refl _⟩
  refine RW_d _ rfl (fun v => by dsimp only [List.set]; try rfl) (fun u hu hF => ?_) (fun v218 => ?_)
  · have h60_ : v217 = (Bo β4) := hF.1
    clear hF
    refine doesG_un rfl ?_
    obtain rfl := h60_
    refine (does_move (u := (Bo β4)) (ev rfl)).mono ?_; rintro _ _ ⟨rfl, rfl⟩
    exact ⟨rfl, Ext.refl _⟩
  refine RW_d _ rfl (fun v => by dsimp only [List.set]; try rfl) (fun u hu hF => ?_) (fun v219 => ?_)
  · have h61_ : v218 = (Bo β4) := hF.1
    clear hF
    obtain rfl := h61_
    refine doesG_g (b := β4) rfl (yld rfl rfl) (fun hg1 => ?_) (fun hc => ⟨fun hg1 => absurd hg1 hc, Ext.refl _⟩)
    refine (does_loadAgg (cs := [(Fl r135), (Fl r137), (Fl r139), (Fl r141), (Iv ((sprG A_g).x)), (Iv ((sprG A_g).y)), (Iv ((sprG A_g).z)), (.slice p145 (((sprG A_g).vals).length) q146)]) (ev rfl) Try.isAgg31 Try.sizeOf31 (Blk.cells (((((hB160.ext E180).ext E190).ext E199).kl K209 (fun hc => absurd (Nat.lt_of_lt_of_le (hw110.1 _ hc).2 (Nat.le_trans (Nat.le_trans (Nat.le_trans (Below.size E114) (Nat.le_of_eq (Eq.symm (Wr.size W120)))) (Below.size E125)) hb150)) (Nat.lt_irrefl _))).ext hu)) rfl).mono ?_; rintro _ _ ⟨rfl, rfl⟩
    exact ⟨fun _ => rfl, Ext.refl _⟩
  refine RW_d _ rfl (fun v => by dsimp only [List.set]; try rfl) (fun u hu hF => ?_) (fun v220 => ?_)
  · have h61_ : v218 = (Bo β4) := hF.1
    clear hF
    obtain rfl := h61_
    refine doesG_g (b := β4) rfl (yld rfl rfl) (fun hg1 => ?_) (fun hc => ⟨fun hg1 => absurd hg1 hc, Ext.refl _⟩)
    refine (does_loadAgg (cs := [(Fl r62), (Fl r64), (Fl r66), (Fl r68), (Iv ((sprG A_g).x)), (Iv ((sprG A_g).y)), (Iv ((sprG A_g).z)), (.slice p72 (((sprG A_g).vals).length) q73)]) (ev rfl) Try.isAgg31 Try.sizeOf31 (Blk.cells (((((((((((hB84.ext E88).ext E114).wr W120 (Nat.ne_of_lt n117)).ext E125).ext E152).wr W159 (Nat.ne_of_lt n155)).ext E180).ext E190).ext E199).kl K209 (fun hc => absurd (hw110.1 _ hc).1 (Nat.not_le_of_lt n96))).ext hu)) rfl).mono ?_; rintro _ _ ⟨rfl, rfl⟩
    exact ⟨fun _ => rfl, Ext.refl _⟩
  refine RW_d _ rfl (fun v => by dsimp only [List.set]; try rfl) (fun u hu hF => ?_) (fun v221 => ?_)
  · have h62_ : β4 = false → v219 = (.agg #[(Fl r135), (Fl r137), (Fl r139), (Fl r141), (Iv ((sprG A_g).x)), (Iv ((sprG A_g).y)), (Iv ((sprG A_g).z)), (.slice p145 (((sprG A_g).vals).length) q146)]) := hF.1
    have h63_ : β4 = false → v220 = (.agg #[(Fl r62), (Fl r64), (Fl r66), (Fl r68), (Iv ((sprG A_g).x)), (Iv ((sprG A_g).y)), (Iv ((sprG A_g).z)), (.slice p72 (((sprG A_g).vals).length) q73)]) := hF.2.1
    have h61_ : v218 = (Bo β4) := hF.2.2.1
    clear hF
    obtain rfl := h61_
    refine doesG_g (b := β4) rfl (yld rfl rfl) (fun hg1 => ?_) (fun hc => ⟨fun hg1 => absurd hg1 hc, Ext.refl _⟩)
    obtain rfl := h62_ hg1
    obtain rfl := h63_ hg1
    refine (does_call (args := #[(.agg #[(Fl r135), (Fl r137), (Fl r139), (Fl r141), (Iv ((sprG A_g).x)), (Iv ((sprG A_g).y)), (Iv ((sprG A_g).z)), (.slice p145 (((sprG A_g).vals).length) q146)]), (.agg #[(Fl r62), (Fl r64), (Fl r66), (Fl r68), (Iv ((sprG A_g).x)), (Iv ((sprG A_g).y)), (Iv ((sprG A_g).z)), (.slice p72 (((sprG A_g).vals).length) q73)])]) cal11 (evs rfl) (c_laws_eqGrid [(Fl r135), (Fl r137), (Fl r139), (Fl r141), (Iv ((sprG A_g).x)), (Iv ((sprG A_g).y)), (Iv ((sprG A_g).z)), (.slice p145 (((sprG A_g).vals).length) q146)] (sprG A_g) [(Fl r62), (Fl r64), (Fl r66), (Fl r68), (Iv ((sprG A_g).x)), (Iv ((sprG A_g).y)), (Iv ((sprG A_g).z)), (.slice p72 (((sprG A_g).vals).length) q73)] (sprG A_g) _ ⟨r135, r137, r139, r141, (.slice p145 (((sprG A_g).vals).length) q146), rfl, h136, h138, h140, h142, (Sl.ext (hh147 _ (((((((Same.refl _ _).ext E152).wr W159 (.inr (Nat.le_trans (Nat.le_refl _) hb150))).ext E180).ext E190).ext E199).kl K209 (fun c hc => .inl (Nat.lt_of_lt_of_le (hw110.1 c hc).2 (Nat.le_trans (Below.size E114) (Nat.le_of_eq (Eq.symm (Wr.size W120)))))))) RF.mono hu)⟩ ⟨r62, r64, r66, r68, (.slice p72 (((sprG A_g).vals).length) q73), rfl, h63, h65, h67, h69, (Sl.ext (hh74 _ (((((((((((((Same.refl _ _).ext E78).wr W83 (.inr (Nat.le_trans (Nat.le_refl _) hb76))).ext E88).ext E114).wr W120 (.inr (Nat.le_trans (Nat.le_trans (Nat.le_trans (Below.size E78) (Nat.le_of_eq (Eq.symm (Wr.size W83)))) (Below.size E88)) hb112))).ext E125).ext E152).wr W159 (.inr (Nat.le_trans (Nat.le_trans (Nat.le_trans (Nat.le_trans (Nat.le_trans (Nat.le_trans (Below.size E78) (Nat.le_of_eq (Eq.symm (Wr.size W83)))) (Below.size E88)) (Below.size E114)) (Nat.le_of_eq (Eq.symm (Wr.size W120)))) (Below.size E125)) hb150))).ext E180).ext E190).ext E199).kl K209 (fun c hc => .inr (Nat.le_trans (Nat.le_trans (Below.size E78) (Nat.le_of_eq (Eq.symm (Wr.size W83)))) (hw110.1 c hc).1)))) RF.mono hu)⟩)).mono ?_; rintro v u' ⟨hx, hv⟩
    exact ⟨fun _ => hv.trans (by simp only [hβ5]), hx⟩
  refine RW_d _ rfl (fun v => by dsimp only [List.set]; try rfl) (fun u hu hF => ?_) (fun v222 => ?_)
  · have h64_ : β4 = false → v221 = (Bo β5) := hF.1
    have h61_ : v218 = (Bo β4) := hF.2.1
    clear hF
    obtain rfl := h61_
    refine doesG_g (b := β4) rfl (yld rfl rfl) (fun hg1 => ?_) (fun hc => ⟨fun hg1 => absurd hg1 hc, Ext.refl _⟩)
    obtain rfl := h64_ hg1
    refine (does_not (ev rfl)).mono ?_; rintro _ _ ⟨rfl, rfl⟩
    exact ⟨fun _ => rfl, Ext.refl _⟩
  refine RW_d _ rfl (fun v => by dsimp only [List.set]; try rfl) (fun u hu hF => ?_) (fun v223 => ?_)
  · have h61_ : v218 = (Bo β4) := hF.1
    have h65_ : β4 = false → v222 = (Bo (!β5)) := hF.2.1
    clear hF
    refine doesG_un rfl ?_
    skip
    obtain rfl := h61_
    refine (does_pick (b := β4) (ev rfl) (ev rfl) (ev rfl)).mono ?_; rintro _ _ ⟨rfl, rfl⟩; refine ⟨?_, Ext.refl _⟩; skip
    cases hbb : β4
    all_goals first | rfl | (have e_ := h65_ hbb; subst e_; rfl) | (simp [hbb] at h65_ ⊢; first | done | rfl | (subst h65_; rfl) | simp_all) | (simp [hbb] at h65_ ⊢; done)
  refine RW_d _ rfl (fun v => by dsimp only [List.set]; try rfl) (fun u hu hF => ?_) (fun v224 => ?_)
  · have h66_ : v223 = (Bo (β4 || (!β5))) := hF.1
    clear hF
    refine doesG_un rfl ?_
    obtain rfl := h66_
    refine (does_move (u := (Bo (β4 || (!β5)))) (ev rfl)).mono ?_; rintro _ _ ⟨rfl, rfl⟩
    exact ⟨rfl, Ext.refl _⟩
  refine RW_d _ rfl (fun v => by dsimp only [List.set]; try rfl) (fun u hu hF => ?_) (fun v225 => ?_)
  · have h67_ : v224 = (Bo (β4 || (!β5))) := hF.1
    clear hF
    obtain rfl := h67_
    refine doesG_g (b := (β4 || (!β5))) rfl (yld rfl rfl) (fun hg1 => ?_) (fun hc => ⟨fun hg1 => absurd hg1 hc, Ext.refl _⟩)
    refine (does_move (u := (Iv (sprI A_g))) (ev rfl)).mono ?_; rintro _ _ ⟨rfl, rfl⟩
    exact ⟨fun _ => rfl, Ext.refl _⟩
  refine RW_d _ rfl (fun v => by dsimp only [List.set]; try rfl) (fun u hu hF => ?_) (fun v226 => ?_)
  · have h67_ : v224 = (Bo (β4 || (!β5))) := hF.1
    clear hF
    obtain rfl := h67_
    refine doesG_g (b := (β4 || (!β5))) rfl (yld rfl rfl) (fun hg1 => ?_) (fun hc => ⟨fun hg1 => absurd hg1 hc, Ext.refl _⟩)
    refine (does_move (u := (Iv (sprI A_g))) (ev rfl)).mono ?_; rintro _ _ ⟨rfl, rfl⟩
    exact ⟨fun _ => rfl, Ext.refl _⟩
  refine RW_d _ rfl (fun v => by dsimp only [List.set]; try rfl) (fun u hu hF => ?_) (fun v227 => ?_)
  · have h68_ : (β4 || (!β5)) = false → v225 = (Iv (sprI A_g)) := hF.1
    have h69_ : (β4 || (!β5)) = false → v226 = (Iv (sprI A_g)) := hF.2.1
    have h67_ : v224 = (Bo (β4 || (!β5))) := hF.2.2.1
    clear hF
    obtain rfl := h67_
    refine doesG_g (b := (β4 || (!β5))) rfl (yld rfl rfl) (fun hg1 => ?_) (fun hc => ⟨fun hg1 => absurd hg1 hc, Ext.refl _⟩)
    obtain rfl := h68_ hg1
    obtain rfl := h69_ hg1
    refine (does_icmp (p := sprI A_g) (q := sprI A_g) (.inr (.inl rfl)) (ev rfl) (ev rfl)).mono ?_; rintro _ _ ⟨rfl, rfl⟩
    exact ⟨fun _ => (by first | rfl | (show _ = _; simp only [hβ6]; done) | (show _ = _; simp only [hβ6]; rfl)), Ext.refl _⟩
  refine RW_d _ rfl (fun v => by dsimp only [List.set]; try rfl) (fun u hu hF => ?_) (fun v228 => ?_)
  · have h67_ : v224 = (Bo (β4 || (!β5))) := hF.1
    have h70_ : (β4 || (!β5)) = false → v227 = (Bo β6) := hF.2.1
    clear hF
    refine doesG_un rfl ?_
    skip
    obtain rfl := h67_
    refine (does_pick (b := (β4 || (!β5))) (ev rfl) (ev rfl) (ev rfl)).mono ?_; rintro _ _ ⟨rfl, rfl⟩; refine ⟨?_, Ext.refl _⟩; skip
    cases hbb : (β4 || (!β5))
    all_goals first | rfl | (have e_ := h70_ hbb; subst e_; rfl) | (simp [hbb] at h70_ ⊢; first | done | rfl | (subst h70_; rfl) | simp_all) | (simp [hbb] at h70_ ⊢; done)
  refine RW_d _ rfl (fun v => by dsimp only [List.set]; try rfl) (fun u hu hF => ?_) (fun v229 => ?_)
  · have h71_ : v228 = (Bo ((β4 || (!β5)) || β6)) := hF.1
    clear hF
    refine doesG_un rfl ?_
    obtain rfl := h71_
    refine (does_move (u := (Bo ((β4 || (!β5)) || β6))) (ev rfl)).mono ?_; rintro _ _ ⟨rfl, rfl⟩
    exact ⟨rfl, Ext.refl _⟩
  refine RW_d _ rfl (fun v => by dsimp only [List.set]; try rfl) (fun u hu hF => ?_) (fun v230 => ?_)
  · have h72_ : v229 = (Bo ((β4 || (!β5)) || β6)) := hF.1
    clear hF
    obtain rfl := h72_
    refine doesG_g (b := ((β4 || (!β5)) || β6)) rfl (yld rfl rfl) (fun hg1 => ?_) (fun hc => ⟨fun hg1 => absurd hg1 hc, Ext.refl _⟩)
    refine (does_move (u := (Bo (sprB A_g))) (ev rfl)).mono ?_; rintro _ _ ⟨rfl, rfl⟩
    exact ⟨fun _ => rfl, Ext.refl _⟩
  refine RW_d _ rfl (fun v => by dsimp only [List.set]; try rfl) (fun u hu hF => ?_) (fun v231 => ?_)
  · have h72_ : v229 = (Bo ((β4 || (!β5)) || β6)) := hF.1
    clear hF
    obtain rfl := h72_
    refine doesG_g (b := ((β4 || (!β5)) || β6)) rfl (yld rfl rfl) (fun hg1 => ?_) (fun hc => ⟨fun hg1 => absurd hg1 hc, Ext.refl _⟩)
    refine (does_move (u := (Bo (sprB A_g))) (ev rfl)).mono ?_; rintro _ _ ⟨rfl, rfl⟩
    exact ⟨fun _ => rfl, Ext.refl _⟩
  refine RW_d _ rfl (fun v => by dsimp only [List.set]; try rfl) (fun u hu hF => ?_) (fun v232 => ?_)
  · have h73_ : ((β4 || (!β5)) || β6) = false → v230 = (Bo (sprB A_g)) := hF.1
    have h74_ : ((β4 || (!β5)) || β6) = false → v231 = (Bo (sprB A_g)) := hF.2.1
    have h72_ : v229 = (Bo ((β4 || (!β5)) || β6)) := hF.2.2.1
    clear hF
    obtain rfl := h72_
    refine doesG_g (b := ((β4 || (!β5)) || β6)) rfl (yld rfl rfl) (fun hg1 => ?_) (fun hc => ⟨fun hg1 => absurd hg1 hc, Ext.refl _⟩)
    obtain rfl := h73_ hg1
    obtain rfl := h74_ hg1
    refine (does_bne (p := (sprB A_g)) (q := (sprB A_g)) Try.underlying4 (ev rfl) (ev rfl)).mono ?_; rintro _ _ ⟨rfl, rfl⟩
    exact ⟨fun _ => rfl, Ext.refl _⟩
  refine RW_d _ rfl (fun v => by dsimp only [List.set]; try rfl) (fun u hu hF => ?_) (fun v233 => ?_)
  · have h72_ : v229 = (Bo ((β4 || (!β5)) || β6)) := hF.1
    have h75_ : ((β4 || (!β5)) || β6) = false → v232 = (Bo ((sprB A_g) != (sprB A_g))) := hF.2.1
    clear hF
    refine doesG_un rfl ?_
    skip
    obtain rfl := h72_
    refine (does_pick (b := ((β4 || (!β5)) || β6)) (ev rfl) (ev rfl) (ev rfl)).mono ?_; rintro _ _ ⟨rfl, rfl⟩; refine ⟨?_, Ext.refl _⟩; rw [hβ7]; skip
    cases hbb : ((β4 || (!β5)) || β6)
    all_goals first | rfl | (have e_ := h75_ hbb; subst e_; rfl) | (simp [hbb] at h75_ ⊢; first | done | rfl | (subst h75_; rfl) | simp_all) | (simp [hbb] at h75_ ⊢; done)
  refine RW_fin ?_; intro w234 E235 hP236
  obtain ⟨⟨⟨⟨⟨⟨⟨⟨⟨⟨⟨⟨⟨⟨⟨⟨⟨⟨-, -⟩, -⟩, -⟩, -⟩, -⟩, -⟩, -⟩, -⟩, -⟩, -⟩, -⟩, -⟩, -⟩, -⟩, -⟩, -⟩, -⟩, q237⟩ := hP236
  have X238 := Ext.gr X211 E235
  have q237 : v233 = (Bo β7) := q237
  obtain rfl := q237
  show wpList _ _ _ _ (fr [_, _, _, _, _, _, _, _, _, _, _, _, _, _, _, _, _, _, _, _, _, _, _, _, _, _, _, _, _, _, _, _, _, _, _, _, _, _, _, _, _, _, _, _, _, _, _, _, _, _, _, _, _, _, _, _, _, _, _, _, _, _, _, _, _, _, _, _, _, _, _, _, _, _, _, _, _, _, _, _, _, _, _, _, _, _, _, _, _, _, _, _, _, _, _, _, _, _, _, _, _, _, _, _, _, _, _, _, _, _, _, _, _, _, _, _, _]) _
  refine wpList_nil (hK215 _ _ ?_)
  refine wp_cond_split (t := β7) (ev rfl) (fun c239 => ?_) (fun c239 => ?_)
  · have c239' := c239
    (try simp only [hβ1, hβ2, hβ3, hβ4, hβ5, hβ6, hβ7, sameG_self, bne_self_eq_false] at c239')
    (try simp only [hβ1, hβ2, hβ3, hβ4, hβ5, hβ6, hβ7] at c239')
    (try simp only [icmp, Bool.and_eq_true, Bool.or_eq_true, Bool.and_eq_false_iff, Bool.or_eq_false_iff, Bool.not_eq_true', Bool.not_eq_false', decide_eq_true_eq, decide_eq_false_iff_not, beq_iff_eq, bne_iff_ne, beq_eq_false_iff_ne, bne_eq_false_iff_eq] at c239')
    refine wp_seq_k fun K240 hK240 => ?_
    refine wp_region_lit ?_
    refine q_is rfl rfl (does_assign (u := (Bo false)) (ev rfl)) (by dsimp only [List.set]; try rfl) ?_
    refine wpList_nil (hK240 _ _ ?_)
    refine wp_ret ?_
    dsimp only [Exit.then, Exit.inBlock]
    refine ret_val (v := (Bo false)) (res_T rfl (slot rfl)) X238 ?_
    try simp only [h2, h4, h6, h8, h43, h45, h47, h49, h63, h65, h67, h69, h98, h100, h102, h104, h136, h138, h140, h142, hβ1, hβ2, hβ3, hβ4, hβ5, hβ6, hβ7, sameG_self, bne_self_eq_false] at c31 c184 c203 c239
    have x241 : true = false := by first | with_reducible rfl | (exfalso; omega) | (exfalso; simp only [mkL_len] at * <;> omega) | (exfalso; rcases c239' with ((hh | hh) | hh) | hh <;> first | omega | (exact Bool.noConfusion hh) | (exact absurd rfl hh)) | (exfalso; rcases c239' with (hh | hh) | hh <;> first | omega | (exact Bool.noConfusion hh)) | (exfalso; rcases c239' with hh | hh <;> first | omega | (exact Bool.noConfusion hh)) | (simp only [sameG_self, bne_self_eq_false, icmp, h2, h4, h6, h8, h43, h45, h47, h49, h63, h65, h67, h69, h98, h100, h102, h104, h136, h138, h140, h142, hβ1, hβ2, hβ3, hβ4, hβ5, hβ6, hβ7, c31, c184, c203, c239]; done) | (simp [sameG_self, bne_self_eq_false, icmp, h2, h4, h6, h8, h43, h45, h47, h49, h63, h65, h67, h69, h98, h100, h102, h104, h136, h138, h140, h142, hβ1, hβ2, hβ3, hβ4, hβ5, hβ6, hβ7, c31, c184, c203, c239]; done) | (simp_all; done) | (exfalso; simp_all; done)
    exact (by first | rfl | rw [x241])
  have c239' := c239
  (try simp only [hβ1, hβ2, hβ3, hβ4, hβ5, hβ6, hβ7, sameG_self, bne_self_eq_false] at c239')
  (try simp only [hβ1, hβ2, hβ3, hβ4, hβ5, hβ6, hβ7] at c239')
  (try simp only [icmp, Bool.and_eq_true, Bool.or_eq_true, Bool.and_eq_false_iff, Bool.or_eq_false_iff, Bool.not_eq_true', Bool.not_eq_false', decide_eq_true_eq, decide_eq_false_iff_not, beq_iff_eq, bne_iff_ne, beq_eq_false_iff_ne, bne_eq_false_iff_eq] at c239')
  refine wp_skip (hK214 _ _ ?_)
  refine wp_seq_k fun K242 hK242 => ?_
  refine wp_region_lit ?_
  refine q_is rfl rfl (does_assign (u := (Iv 1)) (ev rfl)) (by dsimp only [List.set]; try rfl) ?_
  refine wpList_nil (hK242 _ _ ?_)
  refine wp_seq_k fun K243 hK243 => ?_
  refine wp_region_lit ?_
  refine q_is rfl rfl (does_loadAgg (cs := [(Fl r135), (Fl r137), (Fl r139), (Fl r141), (Iv ((sprG A_g).x)), (Iv ((sprG A_g).y)), (Iv ((sprG A_g).z)), (.slice p145 (((sprG A_g).vals).length) q146)]) (ev rfl) Try.isAgg31 Try.sizeOf31 (Blk.cells (((((hB160.ext E180).ext E190).ext E199).kl K209 (fun hc => absurd (Nat.lt_of_lt_of_le (hw110.1 _ hc).2 (Nat.le_trans (Nat.le_trans (Nat.le_trans (Below.size E114) (Nat.le_of_eq (Eq.symm (Wr.size W120)))) (Below.size E125)) hb150)) (Nat.lt_irrefl _))).ext E235)) rfl) (by dsimp only [List.set]; try rfl) ?_
  refine q_is rfl rfl (does_move (u := (Iv 1)) (ev rfl)) (by dsimp only [List.set]; try rfl) ?_
  refine seqd rfl rfl (does_callK (args := #[(.agg #[(Fl r135), (Fl r137), (Fl r139), (Fl r141), (Iv ((sprG A_g).x)), (Iv ((sprG A_g).y)), (Iv ((sprG A_g).z)), (.slice p145 (((sprG A_g).vals).length) q146)]), (Iv 1)]) cal12 (evs rfl) (c_laws_markGrid (Fl r135) (Fl r137) (Fl r139) (Fl r141) (Iv ((sprG A_g).x)) (Iv ((sprG A_g).y)) (Iv ((sprG A_g).z)) (.slice p145 (((sprG A_g).vals).length) q146) ((sprG A_g).vals).length Lw129 w122.heap.size 1 _ (hw148.same ((((((((Same.refl _ _).ext E152).wr W159 (.inr (Nat.le_trans (Nat.le_refl _) hb150))).ext E180).ext E190).ext E199).kl K209 (fun c hc => .inl (Nat.lt_of_lt_of_le (hw110.1 c hc).2 (Nat.le_trans (Below.size E114) (Nat.le_of_eq (Eq.symm (Wr.size W120))))))).ext E235)) (by omega) (by first | omega | omega))) ?_; rintro _ w244 ⟨K245, rfl, hM246⟩
  have X247 := Below.kl X238 K245 (fun c hc => Nat.le_trans (Below.size (Below.wr (Ext.gr (Ext.gr (Below.wr (Ext.gr (Ext.gr (Ext.gr (Ext.gr (Ext.gr (Ext.refl _) E18) E24) E34) E56) E78) W83 g81) E88) E114) W120 g118)) (hw148.1 c hc).1) (Nat.le_refl _)
  show wpList _ _ _ _ (fr [_, _, _, _, _, _, _, _, _, _, _, _, _, _, _, _, _, _, _, _, _, _, _, _, _, _, _, _, _, _, _, _, _, _, _, _, _, _, _, _, _, _, _, _, _, _, _, _, _, _, _, _, _, _, _, _, _, _, _, _, _, _, _, _, _, _, _, _, _, _, _, _, _, _, _, _, _, _, _, _, _, _, _, _, _, _, _, _, _, _, _, _, _, _, _, _, _, _, _, _, _, _, _, _, _, _, _, _, _, _, _, _, _, _, _, _, _]) _
  refine q_is rfl rfl (does_assign (u := (Iv (1 + (((sprG A_g).vals).length : Int) * 1))) (ev rfl)) (by dsimp only [List.set]; try rfl) ?_
  refine wpList_nil (hK243 _ _ ?_)
  refine wp_seq_k fun K250 hK250 => ?_
  refine wp_region_lit ?_
  refine q_is rfl rfl (does_assign (u := (Iv 1)) (ev rfl)) (by dsimp only [List.set]; try rfl) ?_
  refine wpList_nil (hK250 _ _ ?_)
  refine wp_seq_k fun K251 hK251 => ?_
  refine wp_region_lit ?_
  refine q_is rfl rfl (does_loadAgg (cs := [(Fl r135), (Fl r137), (Fl r139), (Fl r141), (Iv ((sprG A_g).x)), (Iv ((sprG A_g).y)), (Iv ((sprG A_g).z)), (.slice p145 (((sprG A_g).vals).length) q146)]) (ev rfl) Try.isAgg31 Try.sizeOf31 (Blk.cells ((((((hB160.ext E180).ext E190).ext E199).kl K209 (fun hc => absurd (Nat.lt_of_lt_of_le (hw110.1 _ hc).2 (Nat.le_trans (Nat.le_trans (Nat.le_trans (Below.size E114) (Nat.le_of_eq (Eq.symm (Wr.size W120)))) (Below.size E125)) hb150)) (Nat.lt_irrefl _))).ext E235).kl K245 (fun hc => absurd (Nat.lt_of_lt_of_le (hw148.1 _ hc).2 (Nat.le_trans (Nat.le_refl _) hb150)) (Nat.lt_irrefl _)))) rfl) (by dsimp only [List.set]; try rfl) ?_
  refine q_is rfl rfl (does_move (u := (Iv 1)) (ev rfl)) (by dsimp only [List.set]; try rfl) ?_
  refine seqd rfl rfl (does_call (args := #[(.agg #[(Fl r135), (Fl r137), (Fl r139), (Fl r141), (Iv ((sprG A_g).x)), (Iv ((sprG A_g).y)), (Iv ((sprG A_g).z)), (.slice p145 (((sprG A_g).vals).length) q146)]), (Iv 1)]) cal13 (evs rfl) (c_laws_heldGrid [(Fl r135), (Fl r137), (Fl r139), (Fl r141), (Iv ((sprG A_g).x)), (Iv ((sprG A_g).y)), (Iv ((sprG A_g).z)), (.slice p145 (((sprG A_g).vals).length) q146)] (GridT.mk (sprG A_g).low ((sprG A_g).step) ((sprG A_g).x) ((sprG A_g).y) ((sprG A_g).z) (mkL fF 1 1 ((sprG A_g).vals).length)) 1 _ ⟨r135, r137, r139, r141, (.slice p145 (((sprG A_g).vals).length) q146), rfl, h136, h138, h140, h142, hM246.get⟩ (by exact mkL_eq) (by omega) (by (try dsimp only); rw [mkL_len]; omega))) ?_; rintro _ w253 ⟨E252, rfl⟩
  have X254 := Ext.gr X247 E252
  show wpList _ _ _ _ (fr [_, _, _, _, _, _, _, _, _, _, _, _, _, _, _, _, _, _, _, _, _, _, _, _, _, _, _, _, _, _, _, _, _, _, _, _, _, _, _, _, _, _, _, _, _, _, _, _, _, _, _, _, _, _, _, _, _, _, _, _, _, _, _, _, _, _, _, _, _, _, _, _, _, _, _, _, _, _, _, _, _, _, _, _, _, _, _, _, _, _, _, _, _, _, _, _, _, _, _, _, _, _, _, _, _, _, _, _, _, _, _, _, _, _, _, _, _]) _
  refine q_is rfl rfl (does_assign (u := (Iv (1 + ((mkL fF 1 1 ((sprG A_g).vals).length).length : Int) * 1))) (ev rfl)) (by dsimp only [List.set]; try rfl) ?_
  refine wpList_nil (hK251 _ _ ?_)
  refine wp_seq_k fun K255 hK255 => ?_
  refine wp_seq_k fun K256 hK256 => ?_
  refine wp_region_lit ?_
  refine q_is rfl rfl (does_move (u := (Iv (1 + ((mkL fF 1 1 ((sprG A_g).vals).length).length : Int) * 1))) (ev rfl)) (by dsimp only [List.set]; try rfl) ?_
  refine q_is rfl rfl (does_icmp (p := 1 + ((mkL fF 1 1 ((sprG A_g).vals).length).length : Int) * 1) (q := 0) (.inr (.inr (.inl rfl))) (ev rfl) (ev rfl)) (by dsimp only [List.set]; try rfl) ?_
  refine wpList_nil (hK256 _ _ ?_)
  refine wp_cond_split (t := icmp .lss (1 + ((mkL fF 1 1 ((sprG A_g).vals).length).length : Int) * 1) 0) (ev rfl) (fun c257 => ?_) (fun c257 => ?_)
  · have c257' := c257
    (try simp only [hβ1, hβ2, hβ3, hβ4, hβ5, hβ6, hβ7, sameG_self, bne_self_eq_false] at c257')
    (try simp only [hβ1, hβ2, hβ3, hβ4, hβ5, hβ6, hβ7] at c257')
    (try simp only [icmp, Bool.and_eq_true, Bool.or_eq_true, Bool.and_eq_false_iff, Bool.or_eq_false_iff, Bool.not_eq_true', Bool.not_eq_false', decide_eq_true_eq, decide_eq_false_iff_not, beq_iff_eq, bne_iff_ne, beq_eq_false_iff_ne, bne_eq_false_iff_eq] at c257')
    refine wp_seq_k fun K258 hK258 => ?_
    refine wp_region_lit ?_
    refine q_is rfl rfl (does_assign (u := (Bo false)) (ev rfl)) (by dsimp only [List.set]; try rfl) ?_
    refine wpList_nil (hK258 _ _ ?_)
    refine wp_ret ?_
    dsimp only [Exit.then, Exit.inBlock]
    refine ret_val (v := (Bo false)) (res_T rfl (slot rfl)) X254 ?_
    try simp only [h2, h4, h6, h8, h43, h45, h47, h49, h63, h65, h67, h69, h98, h100, h102, h104, h136, h138, h140, h142, hβ1, hβ2, hβ3, hβ4, hβ5, hβ6, hβ7, sameG_self, bne_self_eq_false] at c31 c184 c203 c239 c257
    have x259 : true = false := by first | with_reducible rfl | (exfalso; omega) | (exfalso; simp only [mkL_len] at * <;> omega) | (exfalso; rcases c257' with ((hh | hh) | hh) | hh <;> first | omega | (exact Bool.noConfusion hh) | (exact absurd rfl hh)) | (exfalso; rcases c257' with (hh | hh) | hh <;> first | omega | (exact Bool.noConfusion hh)) | (exfalso; rcases c257' with hh | hh <;> first | omega | (exact Bool.noConfusion hh)) | (simp only [sameG_self, bne_self_eq_false, icmp, h2, h4, h6, h8, h43, h45, h47, h49, h63, h65, h67, h69, h98, h100, h102, h104, h136, h138, h140, h142, hβ1, hβ2, hβ3, hβ4, hβ5, hβ6, hβ7, c31, c184, c203, c239, c257]; done) | (simp [sameG_self, bne_self_eq_false, icmp, h2, h4, h6, h8, h43, h45, h47, h49, h63, h65, h67, h69, h98, h100, h102, h104, h136, h138, h140, h142, hβ1, hβ2, hβ3, hβ4, hβ5, hβ6, hβ7, c31, c184, c203, c239, c257]; done) | (simp_all; done) | (exfalso; simp_all; done)
    exact (by first | rfl | rw [x259])
  have c257' := c257
  (try simp only [hβ1, hβ2, hβ3, hβ4, hβ5, hβ6, hβ7, sameG_self, bne_self_eq_false] at c257')
  (try simp only [hβ1, hβ2, hβ3, hβ4, hβ5, hβ6, hβ7] at c257')
  (try simp only [icmp, Bool.and_eq_true, Bool.or_eq_true, Bool.and_eq_false_iff, Bool.or_eq_false_iff, Bool.not_eq_true', Bool.not_eq_false', decide_eq_true_eq, decide_eq_false_iff_not, beq_iff_eq, bne_iff_ne, beq_eq_false_iff_ne, bne_eq_false_iff_eq] at c257')
  refine wp_skip (hK255 _ _ ?_)
  refine wp_seq_k fun K260 hK260 => ?_
  refine wp_seq_k fun K261 hK261 => ?_
  refine wp_region_lit ?_
  refine q_is rfl rfl (does_move (u := (Iv (1 + ((mkL fF 1 1 ((sprG A_g).vals).length).length : Int) * 1))) (ev rfl)) (by dsimp only [List.set]; try rfl) ?_
  refine q_is rfl rfl (does_move (u := (Iv (1 + (((sprG A_g).vals).length : Int) * 1))) (ev rfl)) (by dsimp only [List.set]; try rfl) ?_
  refine q_is rfl rfl (does_icmp (p := 1 + ((mkL fF 1 1 ((sprG A_g).vals).length).length : Int) * 1) (q := 1 + (((sprG A_g).vals).length : Int) * 1) (.inr (.inl rfl)) (ev rfl) (ev rfl)) (by dsimp only [List.set]; try rfl) ?_
  refine wpList_nil (hK261 _ _ ?_)
  refine wp_cond_split (t := icmp .neq (1 + ((mkL fF 1 1 ((sprG A_g).vals).length).length : Int) * 1) (1 + (((sprG A_g).vals).length : Int) * 1)) (ev rfl) (fun c262 => ?_) (fun c262 => ?_)
  · have c262' := c262
    (try simp only [hβ1, hβ2, hβ3, hβ4, hβ5, hβ6, hβ7, sameG_self, bne_self_eq_false] at c262')
    (try simp only [hβ1, hβ2, hβ3, hβ4, hβ5, hβ6, hβ7] at c262')
    (try simp only [icmp, Bool.and_eq_true, Bool.or_eq_true, Bool.and_eq_false_iff, Bool.or_eq_false_iff, Bool.not_eq_true', Bool.not_eq_false', decide_eq_true_eq, decide_eq_false_iff_not, beq_iff_eq, bne_iff_ne, beq_eq_false_iff_ne, bne_eq_false_iff_eq] at c262')
    refine wp_seq_k fun K263 hK263 => ?_
    refine wp_region_lit ?_
    refine q_is rfl rfl (does_assign (u := (Bo false)) (ev rfl)) (by dsimp only [List.set]; try rfl) ?_
    refine wpList_nil (hK263 _ _ ?_)
    refine wp_ret ?_
    dsimp only [Exit.then, Exit.inBlock]
    refine ret_val (v := (Bo false)) (res_T rfl (slot rfl)) X254 ?_
    try simp only [h2, h4, h6, h8, h43, h45, h47, h49, h63, h65, h67, h69, h98, h100, h102, h104, h136, h138, h140, h142, hβ1, hβ2, hβ3, hβ4, hβ5, hβ6, hβ7, sameG_self, bne_self_eq_false] at c31 c184 c203 c239 c257 c262
    have x264 : true = false := by first | with_reducible rfl | (exfalso; omega) | (exfalso; simp only [mkL_len] at * <;> omega) | (exfalso; rcases c262' with ((hh | hh) | hh) | hh <;> first | omega | (exact Bool.noConfusion hh) | (exact absurd rfl hh)) | (exfalso; rcases c262' with (hh | hh) | hh <;> first | omega | (exact Bool.noConfusion hh)) | (exfalso; rcases c262' with hh | hh <;> first | omega | (exact Bool.noConfusion hh)) | (simp only [sameG_self, bne_self_eq_false, icmp, h2, h4, h6, h8, h43, h45, h47, h49, h63, h65, h67, h69, h98, h100, h102, h104, h136, h138, h140, h142, hβ1, hβ2, hβ3, hβ4, hβ5, hβ6, hβ7, c31, c184, c203, c239, c257, c262]; done) | (simp [sameG_self, bne_self_eq_false, icmp, h2, h4, h6, h8, h43, h45, h47, h49, h63, h65, h67, h69, h98, h100, h102, h104, h136, h138, h140, h142, hβ1, hβ2, hβ3, hβ4, hβ5, hβ6, hβ7, c31, c184, c203, c239, c257, c262]; done) | (simp_all; done) | (exfalso; simp_all; done)
    exact (by first | rfl | rw [x264])
  have c262' := c262
  (try simp only [hβ1, hβ2, hβ3, hβ4, hβ5, hβ6, hβ7, sameG_self, bne_self_eq_false] at c262')
  (try simp only [hβ1, hβ2, hβ3, hβ4, hβ5, hβ6, hβ7] at c262')
  (try simp only [icmp, Bool.and_eq_true, Bool.or_eq_true, Bool.and_eq_false_iff, Bool.or_eq_false_iff, Bool.not_eq_true', Bool.not_eq_false', decide_eq_true_eq, decide_eq_false_iff_not, beq_iff_eq, bne_iff_ne, beq_eq_false_iff_ne, bne_eq_false_iff_eq] at c262')
  refine wp_skip (hK260 _ _ ?_)
  refine wp_seq_k fun K265 hK265 => ?_
  refine wp_region_lit ?_
  refine q_is rfl rfl (does_loadAgg (cs := [(Fl r1), (Fl r3), (Fl r5), (Fl r7), (Iv A_g.x), (Iv A_g.y), (Iv A_g.z), (.slice p11 A_g.vals.length q12)]) (ev rfl) Try.isAgg27 Try.sizeOf27 (Blk.cells ((((((((((((((((((hB17.ext E24).ext E34).ext E56).ext E78).wr W83 (Nat.ne_of_lt n80)).ext E88).ext E114).wr W120 (Nat.ne_of_lt n116)).ext E125).ext E152).wr W159 (Nat.ne_of_lt n154)).ext E180).ext E190).ext E199).kl K209 (fun hc => absurd (hw110.1 _ hc).1 (Nat.not_le_of_lt n95))).ext E235).kl K245 (fun hc => absurd (hw148.1 _ hc).1 (Nat.not_le_of_lt n132))).ext E252)) rfl) (by dsimp only [List.set]; try rfl) ?_
  refine seqd rfl rfl (does_call (args := #[(.agg #[(Fl r1), (Fl r3), (Fl r5), (Fl r7), (Iv A_g.x), (Iv A_g.y), (Iv A_g.z), (.slice p11 A_g.vals.length q12)])]) cal9 (evs rfl) (c_laws_toGrid [(Fl r1), (Fl r3), (Fl r5), (Fl r7), (Iv A_g.x), (Iv A_g.y), (Iv A_g.z), (.slice p11 A_g.vals.length q12)] A_g _ ⟨r1, r3, r5, r7, (.slice p11 A_g.vals.length q12), rfl, h2, h4, h6, h8, (Sl.ext hs13 RF.mono X254)⟩ (by omega))) ?_; rintro _ w267 ⟨E266, ⟨cs269, Lw270, rfl, hh268, hw271⟩⟩
  have X272 := Ext.gr X254 E266
  have n273 : b15 < w253.heap.size := Blk.lt ((((((((((((((((((hB17.ext E24).ext E34).ext E56).ext E78).wr W83 (Nat.ne_of_lt n80)).ext E88).ext E114).wr W120 (Nat.ne_of_lt n116)).ext E125).ext E152).wr W159 (Nat.ne_of_lt n154)).ext E180).ext E190).ext E199).kl K209 (fun hc => absurd (hw110.1 _ hc).1 (Nat.not_le_of_lt n95))).ext E235).kl K245 (fun hc => absurd (hw148.1 _ hc).1 (Nat.not_le_of_lt n132))).ext E252)
  have n274 : b75 < w253.heap.size := Blk.lt (((((((((((((hB84.ext E88).ext E114).wr W120 (Nat.ne_of_lt n117)).ext E125).ext E152).wr W159 (Nat.ne_of_lt n155)).ext E180).ext E190).ext E199).kl K209 (fun hc => absurd (hw110.1 _ hc).1 (Nat.not_le_of_lt n96))).ext E235).kl K245 (fun hc => absurd (hw148.1 _ hc).1 (Nat.not_le_of_lt n133))).ext E252)
  have n275 : b111 < w253.heap.size := Blk.lt ((((((((((hB121.ext E125).ext E152).wr W159 (Nat.ne_of_lt n156)).ext E180).ext E190).ext E199).kl K209 (fun hc => absurd (Nat.lt_of_lt_of_le (hw110.1 _ hc).2 (Nat.le_trans (Nat.le_refl _) hb112)) (Nat.lt_irrefl _))).ext E235).kl K245 (fun hc => absurd (hw148.1 _ hc).1 (Nat.not_le_of_lt n134))).ext E252)
  have n276 : b149 < w253.heap.size := Blk.lt (((((((hB160.ext E180).ext E190).ext E199).kl K209 (fun hc => absurd (Nat.lt_of_lt_of_le (hw110.1 _ hc).2 (Nat.le_trans (Nat.le_trans (Nat.le_trans (Below.size E114) (Nat.le_of_eq (Eq.symm (Wr.size W120)))) (Below.size E125)) hb150)) (Nat.lt_irrefl _))).ext E235).kl K245 (fun hc => absurd (Nat.lt_of_lt_of_le (hw148.1 _ hc).2 (Nat.le_trans (Nat.le_refl _) hb150)) (Nat.lt_irrefl _))).ext E252)
  obtain ⟨r277, r279, r281, r283, y285, rfl, h278, h280, h282, h284, h286⟩ := hh268.get
  have h286l := Sl.len h286; obtain ⟨p287, q288, rfl⟩ := Sl.shape h286
  have hh289 : Hang w253.heap.size w267 (fun u => Sl RF 1 u (.slice p287 A_g.vals.length q288) A_g.vals) := fun u hu => by obtain ⟨_, _, _, _, _, hq, _, _, _, _, _⟩ := hh268 u hu; cases hq; assumption
  have hw290 : WL 1 w253.heap.size w267 Lw270 (.slice p287 A_g.vals.length q288) A_g.vals.length := hw271
  show wpList _ _ _ _ (fr [_, _, _, _, _, _, _, _, _, _, _, _, _, _, _, _, _, _, _, _, _, _, _, _, _, _, _, _, _, _, _, _, _, _, _, _, _, _, _, _, _, _, _, _, _, _, _, _, _, _, _, _, _, _, _, _, _, _, _, _, _, _, _, _, _, _, _, _, _, _, _, _, _, _, _, _, _, _, _, _, _, _, _, _, _, _, _, _, _, _, _, _, _, _, _, _, _, _, _, _, _, _, _, _, _, _, _, _, _, _, _, _, _, _, _, _, _]) _
  refine seqd rfl rfl (does_call (args := #[(.agg #[(Fl r277), (Fl r279), (Fl r281), (Fl r283), (Iv A_g.x), (Iv A_g.y), (Iv A_g.z), (.slice p287 A_g.vals.length q288)])]) cal22 (evs rfl) (c_impl_SpreadGrid [(Fl r277), (Fl r279), (Fl r281), (Fl r283), (Iv A_g.x), (Iv A_g.y), (Iv A_g.z), (.slice p287 A_g.vals.length q288)] A_g _ ⟨r277, r279, r281, r283, (.slice p287 A_g.vals.length q288), rfl, h278, h280, h282, h284, hh289.get⟩)) ?_; rintro _ w292 ⟨E291, ⟨cs294, Lw295, rfl, hh293, hw296⟩⟩
  have X297 := Ext.gr X272 E291
  have n298 : b15 < w267.heap.size := Blk.lt (((((((((((((((((((hB17.ext E24).ext E34).ext E56).ext E78).wr W83 (Nat.ne_of_lt n80)).ext E88).ext E114).wr W120 (Nat.ne_of_lt n116)).ext E125).ext E152).wr W159 (Nat.ne_of_lt n154)).ext E180).ext E190).ext E199).kl K209 (fun hc => absurd (hw110.1 _ hc).1 (Nat.not_le_of_lt n95))).ext E235).kl K245 (fun hc => absurd (hw148.1 _ hc).1 (Nat.not_le_of_lt n132))).ext E252).ext E266)
  have n299 : b75 < w267.heap.size := Blk.lt ((((((((((((((hB84.ext E88).ext E114).wr W120 (Nat.ne_of_lt n117)).ext E125).ext E152).wr W159 (Nat.ne_of_lt n155)).ext E180).ext E190).ext E199).kl K209 (fun hc => absurd (hw110.1 _ hc).1 (Nat.not_le_of_lt n96))).ext E235).kl K245 (fun hc => absurd (hw148.1 _ hc).1 (Nat.not_le_of_lt n133))).ext E252).ext E266)
  have n300 : b111 < w267.heap.size := Blk.lt (((((((((((hB121.ext E125).ext E152).wr W159 (Nat.ne_of_lt n156)).ext E180).ext E190).ext E199).kl K209 (fun hc => absurd (Nat.lt_of_lt_of_le (hw110.1 _ hc).2 (Nat.le_trans (Nat.le_refl _) hb112)) (Nat.lt_irrefl _))).ext E235).kl K245 (fun hc => absurd (hw148.1 _ hc).1 (Nat.not_le_of_lt n134))).ext E252).ext E266)
  have n301 : b149 < w267.heap.size := Blk.lt ((((((((hB160.ext E180).ext E190).ext E199).kl K209 (fun hc => absurd (Nat.lt_of_lt_of_le (hw110.1 _ hc).2 (Nat.le_trans (Nat.le_trans (Nat.le_trans (Below.size E114) (Nat.le_of_eq (Eq.symm (Wr.size W120)))) (Below.size E125)) hb150)) (Nat.lt_irrefl _))).ext E235).kl K245 (fun hc => absurd (Nat.lt_of_lt_of_le (hw148.1 _ hc).2 (Nat.le_trans (Nat.le_refl _) hb150)) (Nat.lt_irrefl _))).ext E252).ext E266)
  obtain ⟨r302, r304, r306, r308, y310, rfl, h303, h305, h307, h309, h311⟩ := hh293.get
  have h311l := Sl.len h311; obtain ⟨p312, q313, rfl⟩ := Sl.shape h311
  have hh314 : Hang w267.heap.size w292 (fun u => Sl RF 1 u (.slice p312 (((sprG A_g).vals).length) q313) ((sprG A_g).vals)) := fun u hu => by obtain ⟨_, _, _, _, _, hq, _, _, _, _, _⟩ := hh293 u hu; cases hq; assumption
  have hw315 : WL 1 w267.heap.size w292 Lw295 (.slice p312 (((sprG A_g).vals).length) q313) ((sprG A_g).vals).length := hw296
  show wpList _ _ _ _ (fr [_, _, _, _, _, _, _, _, _, _, _, _, _, _, _, _, _, _, _, _, _, _, _, _, _, _, _, _, _, _, _, _, _, _, _, _, _, _, _, _, _, _, _, _, _, _, _, _, _, _, _, _, _, _, _, _, _, _, _, _, _, _, _, _, _, _, _, _, _, _, _, _, _, _, _, _, _, _, _, _, _, _, _, _, _, _, _, _, _, _, _, _, _, _, _, _, _, _, _, _, _, _, _, _, _, _, _, _, _, _, _, _, _, _, _, _, _]) _
  refine q_is rfl rfl (does_move (u := (.tuple #[(.agg #[(Fl r302), (Fl r304), (Fl r306), (Fl r308), (Iv ((sprG A_g).x)), (Iv ((sprG A_g).y)), (Iv ((sprG A_g).z)), (.slice p312 (((sprG A_g).vals).length) q313)]), (Iv (sprI A_g)), (Bo (sprB A_g))])) (ev rfl)) (by dsimp only [List.set]; try rfl) ?_
  refine q_is rfl rfl (does_extract (vs := #[(.agg #[(Fl r302), (Fl r304), (Fl r306), (Fl r308), (Iv ((sprG A_g).x)), (Iv ((sprG A_g).y)), (Iv ((sprG A_g).z)), (.slice p312 (((sprG A_g).vals).length) q313)]), (Iv (sprI A_g)), (Bo (sprB A_g))]) (u := (.agg #[(Fl r302), (Fl r304), (Fl r306), (Fl r308), (Iv ((sprG A_g).x)), (Iv ((sprG A_g).y)), (Iv ((sprG A_g).z)), (.slice p312 (((sprG A_g).vals).length) q313)])) (ev rfl) rfl) (by dsimp only [List.set]; try rfl) ?_
  refine q_is rfl rfl (does_extract (vs := #[(.agg #[(Fl r302), (Fl r304), (Fl r306), (Fl r308), (Iv ((sprG A_g).x)), (Iv ((sprG A_g).y)), (Iv ((sprG A_g).z)), (.slice p312 (((sprG A_g).vals).length) q313)]), (Iv (sprI A_g)), (Bo (sprB A_g))]) (u := (Iv (sprI A_g))) (ev rfl) rfl) (by dsimp only [List.set]; try rfl) ?_
  refine q_is rfl rfl (does_extract (vs := #[(.agg #[(Fl r302), (Fl r304), (Fl r306), (Fl r308), (Iv ((sprG A_g).x)), (Iv ((sprG A_g).y)), (Iv ((sprG A_g).z)), (.slice p312 (((sprG A_g).vals).length) q313)]), (Iv (sprI A_g)), (Bo (sprB A_g))]) (u := (Bo (sprB A_g))) (ev rfl) rfl) (by dsimp only [List.set]; try rfl) ?_
  refine seqd rfl rfl (does_alloc z31) ?_; rintro _ w320 ⟨b316, rfl, hb317, hB318, E319⟩
  have n321 : b15 < b316 := Nat.lt_of_lt_of_le (Blk.lt ((((((((((((((((((((hB17.ext E24).ext E34).ext E56).ext E78).wr W83 (Nat.ne_of_lt n80)).ext E88).ext E114).wr W120 (Nat.ne_of_lt n116)).ext E125).ext E152).wr W159 (Nat.ne_of_lt n154)).ext E180).ext E190).ext E199).kl K209 (fun hc => absurd (hw110.1 _ hc).1 (Nat.not_le_of_lt n95))).ext E235).kl K245 (fun hc => absurd (hw148.1 _ hc).1 (Nat.not_le_of_lt n132))).ext E252).ext E266).ext E291)) hb317
  have n322 : b75 < b316 := Nat.lt_of_lt_of_le (Blk.lt (((((((((((((((hB84.ext E88).ext E114).wr W120 (Nat.ne_of_lt n117)).ext E125).ext E152).wr W159 (Nat.ne_of_lt n155)).ext E180).ext E190).ext E199).kl K209 (fun hc => absurd (hw110.1 _ hc).1 (Nat.not_le_of_lt n96))).ext E235).kl K245 (fun hc => absurd (hw148.1 _ hc).1 (Nat.not_le_of_lt n133))).ext E252).ext E266).ext E291)) hb317
  have n323 : b111 < b316 := Nat.lt_of_lt_of_le (Blk.lt ((((((((((((hB121.ext E125).ext E152).wr W159 (Nat.ne_of_lt n156)).ext E180).ext E190).ext E199).kl K209 (fun hc => absurd (Nat.lt_of_lt_of_le (hw110.1 _ hc).2 (Nat.le_trans (Nat.le_refl _) hb112)) (Nat.lt_irrefl _))).ext E235).kl K245 (fun hc => absurd (hw148.1 _ hc).1 (Nat.not_le_of_lt n134))).ext E252).ext E266).ext E291)) hb317
  have n324 : b149 < b316 := Nat.lt_of_lt_of_le (Blk.lt (((((((((hB160.ext E180).ext E190).ext E199).kl K209 (fun hc => absurd (Nat.lt_of_lt_of_le (hw110.1 _ hc).2 (Nat.le_trans (Nat.le_trans (Nat.le_trans (Below.size E114) (Nat.le_of_eq (Eq.symm (Wr.size W120)))) (Below.size E125)) hb150)) (Nat.lt_irrefl _))).ext E235).kl K245 (fun hc => absurd (Nat.lt_of_lt_of_le (hw148.1 _ hc).2 (Nat.le_trans (Nat.le_refl _) hb150)) (Nat.lt_irrefl _))).ext E252).ext E266).ext E291)) hb317
  have g325 : w.heap.size ≤ b316 := Nat.le_trans (Below.size X297) hb317
  change Blk _ _ [(Fl 0), (Fl 0), (Fl 0), (Fl 0), (Iv 0), (Iv 0), (Iv 0), (.slice none 0 0)] at hB318
  have X326 := Ext.gr X297 E319
  show wpList _ _ _ _ (fr [_, _, _, _, _, _, _, _, _, _, _, _, _, _, _, _, _, _, _, _, _, _, _, _, _, _, _, _, _, _, _, _, _, _, _, _, _, _, _, _, _, _, _, _, _, _, _, _, _, _, _, _, _, _, _, _, _, _, _, _, _, _, _, _, _, _, _, _, _, _, _, _, _, _, _, _, _, _, _, _, _, _, _, _, _, _, _, _, _, _, _, _, _, _, _, _, _, _, _, _, _, _, _, _, _, _, _, _, _, _, _, _, _, _, _, _, _]) _
  refine seqn rfl rfl (does_store (n := 8) (cs := [(Fl 0), (Fl 0), (Fl 0), (Fl 0), (Iv 0), (Iv 0), (Iv 0), (.slice none 0 0)]) (u := (.agg #[(Fl r302), (Fl r304), (Fl r306), (Fl r308), (Iv ((sprG A_g).x)), (Iv ((sprG A_g).y)), (Iv ((sprG A_g).z)), (.slice p312 (((sprG A_g).vals).length) q313)])) (ev rfl) (ev rfl) Try.sizeOf31 rfl hB318 (Nat.le_of_ble_eq_true rfl) rfl) ?_; rintro _ w329 ⟨rfl, W327, hB328⟩
  change Blk _ _ [(Fl r302), (Fl r304), (Fl r306), (Fl r308), (Iv ((sprG A_g).x)), (Iv ((sprG A_g).y)), (Iv ((sprG A_g).z)), (.slice p312 (((sprG A_g).vals).length) q313)] at hB328
  have X330 := Below.wr X326 W327 g325
  refine q_is rfl rfl (does_assign (u := (Iv (sprI A_g))) (ev rfl)) (by dsimp only [List.set]; try rfl) ?_
  refine q_is rfl rfl (does_assign (u := (Bo (sprB A_g))) (ev rfl)) (by dsimp only [List.set]; try rfl) ?_
  refine wpList_nil (hK265 _ _ ?_)
  refine wp_seq_k fun K331 hK331 => ?_
  refine wp_seq_k fun K332 hK332 => ?_
  obtain ⟨β8, hβ8⟩ : ∃ b : Bool, b = (sameG (sprG A_g) (sprG A_g)) := ⟨_, rfl⟩
  obtain ⟨β9, hβ9⟩ : ∃ b : Bool, b = (icmp .neq (sprI A_g) (sprI A_g)) := ⟨_, rfl⟩
  obtain ⟨β10, hβ10⟩ : ∃ b : Bool, b = (((!β8) || β9) || ((sprB A_g) != (sprB A_g))) := ⟨_, rfl⟩
  refine region_text (
    [Fact.pure [] (fun v => v = (.agg #[(Fl r302), (Fl r304), (Fl r306), (Fl r308), (Iv ((sprG A_g).x)), (Iv ((sprG A_g).y)), (Iv ((sprG A_g).z)), (.slice p312 (((sprG A_g).vals).length) q313)])),
    Fact.pure [] (fun v => v = (.agg #[(Fl r62), (Fl r64), (Fl r66), (Fl r68), (Iv ((sprG A_g).x)), (Iv ((sprG A_g).y)), (Iv ((sprG A_g).z)), (.slice p72 (((sprG A_g).vals).length) q73)])),
    Fact.pure [95, 96] (fun v => v = (Bo β8)),
    Fact.pure [97] (fun v => v = (Bo (!β8))),
    Fact.pure [98] (fun v => v = (Bo (!β8))),
    Fact.pure [99] (fun v => (!β8) = false → v = (Iv (sprI A_g))),
    Fact.pure [99] (fun v => (!β8) = false → v = (Iv (sprI A_g))),
    Fact.pure [100, 101, 99] (fun v => (!β8) = false → v = (Bo β9)),
    Fact.pure [99, 102] (fun v => v = (Bo ((!β8) || β9))),
    Fact.pure [103] (fun v => v = (Bo ((!β8) || β9))),
    Fact.pure [104] (fun v => ((!β8) || β9) = false → v = (Bo (sprB A_g))),
    Fact.pure [104] (fun v => ((!β8) || β9) = false → v = (Bo (sprB A_g))),
    Fact.pure [105, 106, 104] (fun v => ((!β8) || β9) = false → v = (Bo ((sprB A_g) != (sprB A_g)))),
    Fact.pure [104, 107] (fun v => v = (Bo β10))]) (by simp [Fact.pure, Fact.mem]) ?_
  refine RW_d _ rfl (fun v => by dsimp only [List.set]; try rfl) (fun u hu hF => ?_) (fun v333 => ?_)
  · clear hF
    refine doesG_un rfl ?_
    refine (does_loadAgg (cs := [(Fl r302), (Fl r304), (Fl r306), (Fl r308), (Iv ((sprG A_g).x)), (Iv ((sprG A_g).y)), (Iv ((sprG A_g).z)), (.slice p312 (((sprG A_g).vals).length) q313)]) (ev rfl) Try.isAgg31 Try.sizeOf31 (Blk.cells (hB328.ext hu)) rfl).mono ?_; rintro _ _ ⟨rfl, rfl⟩
    exact ⟨rfl, Ext.refl _⟩
  refine RW_d _ rfl (fun v => by dsimp only [List.set]; try rfl) (fun u hu hF => ?_) (fun v334 => ?_)
  · clear hF
    refine doesG_un rfl ?_
    refine (does_loadAgg (cs := [(Fl r62), (Fl r64), (Fl r66), (Fl r68), (Iv ((sprG A_g).x)), (Iv ((sprG A_g).y)), (Iv ((sprG A_g).z)), (.slice p72 (((sprG A_g).vals).length) q73)]) (ev rfl) Try.isAgg31 Try.sizeOf31 (Blk.cells ((((((((((((((((((hB84.ext E88).ext E114).wr W120 (Nat.ne_of_lt n117)).ext E125).ext E152).wr W159 (Nat.ne_of_lt n155)).ext E180).ext E190).ext E199).kl K209 (fun hc => absurd (hw110.1 _ hc).1 (Nat.not_le_of_lt n96))).ext E235).kl K245 (fun hc => absurd (hw148.1 _ hc).1 (Nat.not_le_of_lt n133))).ext E252).ext E266).ext E291).ext E319).wr W327 (Nat.ne_of_lt n322)).ext hu)) rfl).mono ?_; rintro _ _ ⟨rfl, rfl⟩
    exact ⟨rfl, Ext.refl _⟩
  refine RW_d _ rfl (fun v => by dsimp only [List.set]; try rfl) (fun u hu hF => ?_) (fun v335 => ?_)
  · have h95_ : v333 = (.agg #[(Fl r302), (Fl r304), (Fl r306), (Fl r308), (Iv ((sprG A_g).x)), (Iv ((sprG A_g).y)), (Iv ((sprG A_g).z)), (.slice p312 (((sprG A_g).vals).length) q313)]) := hF.1
    have h96_ : v334 = (.agg #[(Fl r62), (Fl r64), (Fl r66), (Fl r68), (Iv ((sprG A_g).x)), (Iv ((sprG A_g).y)), (Iv ((sprG A_g).z)), (.slice p72 (((sprG A_g).vals).length) q73)]) := hF.2.1
    clear hF
    refine doesG_un rfl ?_
    obtain rfl := h95_
    obtain rfl := h96_
    refine (does_call (args := #[(.agg #[(Fl r302), (Fl r304), (Fl r306), (Fl r308), (Iv ((sprG A_g).x)), (Iv ((sprG A_g).y)), (Iv ((sprG A_g).z)), (.slice p312 (((sprG A_g).vals).length) q313)]), (.agg #[(Fl r62), (Fl r64), (Fl r66), (Fl r68), (Iv ((sprG A_g).x)), (Iv ((sprG A_g).y)), (Iv ((sprG A_g).z)), (.slice p72 (((sprG A_g).vals).length) q73)])]) cal11 (evs rfl) (c_laws_eqGrid [(Fl r302), (Fl r304), (Fl r306), (Fl r308), (Iv ((sprG A_g).x)), (Iv ((sprG A_g).y)), (Iv ((sprG A_g).z)), (.slice p312 (((sprG A_g).vals).length) q313)] (sprG A_g) [(Fl r62), (Fl r64), (Fl r66), (Fl r68), (Iv ((sprG A_g).x)), (Iv ((sprG A_g).y)), (Iv ((sprG A_g).z)), (.slice p72 (((sprG A_g).vals).length) q73)] (sprG A_g) _ ⟨r302, r304, r306, r308, (.slice p312 (((sprG A_g).vals).length) q313), rfl, h303, h305, h307, h309, (Sl.ext (hh314 _ (((Same.refl _ _).ext E319).wr W327 (.inr (Nat.le_trans (Nat.le_refl _) hb317)))) RF.mono hu)⟩ ⟨r62, r64, r66, r68, (.slice p72 (((sprG A_g).vals).length) q73), rfl, h63, h65, h67, h69, (Sl.ext (hh74 _ ((((((((((((((((((((Same.refl _ _).ext E78).wr W83 (.inr (Nat.le_trans (Nat.le_refl _) hb76))).ext E88).ext E114).wr W120 (.inr (Nat.le_trans (Nat.le_trans (Nat.le_trans (Below.size E78) (Nat.le_of_eq (Eq.symm (Wr.size W83)))) (Below.size E88)) hb112))).ext E125).ext E152).wr W159 (.inr (Nat.le_trans (Nat.le_trans (Nat.le_trans (Nat.le_trans (Nat.le_trans (Nat.le_trans (Below.size E78) (Nat.le_of_eq (Eq.symm (Wr.size W83)))) (Below.size E88)) (Below.size E114)) (Nat.le_of_eq (Eq.symm (Wr.size W120)))) (Below.size E125)) hb150))).ext E180).ext E190).ext E199).kl K209 (fun c hc => .inr (Nat.le_trans (Nat.le_trans (Below.size E78) (Nat.le_of_eq (Eq.symm (Wr.size W83)))) (hw110.1 c hc).1))).ext E235).kl K245 (fun c hc => .inr (Nat.le_trans (Nat.le_trans (Nat.le_trans (Nat.le_trans (Nat.le_trans (Below.size E78) (Nat.le_of_eq (Eq.symm (Wr.size W83)))) (Below.size E88)) (Below.size E114)) (Nat.le_of_eq (Eq.symm (Wr.size W120)))) (hw148.1 c hc).1))).ext E252).ext E266).ext E291).ext E319).wr W327 (.inr (Nat.le_trans (Nat.le_trans (Nat.le_trans (Nat.le_trans (Nat.le_trans (Nat.le_trans (Nat.le_trans (Nat.le_trans (Nat.le_trans (Nat.le_trans (Nat.le_trans (Nat.le_trans (Nat.le_trans (Nat.le_trans (Nat.le_trans (Nat.le_trans (Nat.le_trans (Below.size E78) (Nat.le_of_eq (Eq.symm (Wr.size W83)))) (Below.size E88)) (Below.size E114)) (Nat.le_of_eq (Eq.symm (Wr.size W120)))) (Below.size E125)) (Below.size E152)) (Nat.le_of_eq (Eq.symm (Wr.size W159)))) (Below.size E180)) (Below.size E190)) (Below.size E199)) (KpL.size K209)) (Below.size E235)) (KpL.size K245)) (Below.size E252)) (Below.size E266)) (Below.size E291)) hb317)))) RF.mono hu)⟩)).mono ?_; rintro v u' ⟨hx, hv⟩
    exact ⟨hv.trans (by simp only [hβ8]), hx⟩
  refine RW_d _ rfl (fun v => by dsimp only [List.set]; try rfl) (fun u hu hF => ?_) (fun v336 => ?_)
  · have h97_ : v335 = (Bo β8) := hF.1
    clear hF
    refine doesG_un rfl ?_
    obtain rfl := h97_
    refine (does_not (ev rfl)).mono ?_; rintro _ _ ⟨rfl, rfl⟩
    exact ⟨rfl, Ext.refl _⟩
  refine RW_d _ rfl (fun v => by dsimp only [List.set]; try rfl) (fun u hu hF => ?_) (fun v337 => ?_)
  · have h98_ : v336 = (Bo (!β8)) := hF.1
    clear hF
    refine doesG_un rfl ?_
    obtain rfl := h98_
    refine (does_move (u := (Bo (!β8))) (ev rfl)).mono ?_; rintro _ _ ⟨rfl, rfl⟩
    exact ⟨rfl, Ext.refl _⟩
  refine RW_d _ rfl (fun v => by dsimp only [List.set]; try rfl) (fun u hu hF => ?_) (fun v338 => ?_)
  · have h99_ : v337 = (Bo (!β8)) := hF.1
    clear hF
    obtain rfl := h99_
    refine doesG_g (b := (!β8)) rfl (yld rfl rfl) (fun hg1 => ?_) (fun hc => ⟨fun hg1 => absurd hg1 hc, Ext.refl _⟩)
    refine (does_move (u := (Iv (sprI A_g))) (ev rfl)).mono ?_; rintro _ _ ⟨rfl, rfl⟩
    exact ⟨fun _ => rfl, Ext.refl _⟩
  refine RW_d _ rfl (fun v => by dsimp only [List.set]; try rfl) (fun u hu hF => ?_) (fun v339 => ?_)
  · have h99_ : v337 = (Bo (!β8)) := hF.1
    clear hF
    obtain rfl := h99_
    refine doesG_g (b := (!β8)) rfl (yld rfl rfl) (fun hg1 => ?_) (fun hc => ⟨fun hg1 => absurd hg1 hc, Ext.refl _⟩)
    refine (does_move (u := (Iv (sprI A_g))) (ev rfl)).mono ?_; rintro _ _ ⟨rfl, rfl⟩
    exact ⟨fun _ => rfl, Ext.refl _⟩
  refine RW_d _ rfl (fun v => by dsimp only [List.set]; try rfl) (fun u hu hF => ?_) (fun v340 => ?_)
  · have h100_ : (!β8) = false → v338 = (Iv (sprI A_g)) := hF.1
    have h101_ : (!β8) = false → v339 = (Iv (sprI A_g)) := hF.2.1
    have h99_ : v337 = (Bo (!β8)) := hF.2.2.1
    clear hF
    obtain rfl := h99_
    refine doesG_g (b := (!β8)) rfl (yld rfl rfl) (fun hg1 => ?_) (fun hc => ⟨fun hg1 => absurd hg1 hc, Ext.refl _⟩)
    obtain rfl := h100_ hg1
    obtain rfl := h101_ hg1
    refine (does_icmp (p := sprI A_g) (q := sprI A_g) (.inr (.inl rfl)) (ev rfl) (ev rfl)).mono ?_; rintro _ _ ⟨rfl, rfl⟩
    exact ⟨fun _ => (by first | rfl | (show _ = _; simp only [hβ9]; done) | (show _ = _; simp only [hβ9]; rfl)), Ext.refl _⟩
  refine RW_d _ rfl (fun v => by dsimp only [List.set]; try rfl) (fun u hu hF => ?_) (fun v341 => ?_)
  · have h99_ : v337 = (Bo (!β8)) := hF.1
    have h102_ : (!β8) = false → v340 = (Bo β9) := hF.2.1
    clear hF
    refine doesG_un rfl ?_
    skip
    obtain rfl := h99_
    refine (does_pick (b := (!β8)) (ev rfl) (ev rfl) (ev rfl)).mono ?_; rintro _ _ ⟨rfl, rfl⟩; refine ⟨?_, Ext.refl _⟩; skip
    cases hbb : (!β8)
    all_goals first | rfl | (have e_ := h102_ hbb; subst e_; rfl) | (simp [hbb] at h102_ ⊢; first | done | rfl | (subst h102_; rfl) | simp_all) | (simp [hbb] at h102_ ⊢; done)
  refine RW_d _ rfl (fun v => by dsimp only [List.set]; try rfl) (fun u hu hF => ?_) (fun v342 => ?_)
  · have h103_ : v341 = (Bo ((!β8) || β9)) := hF.1
    clear hF
    refine doesG_un rfl ?_
    obtain rfl := h103_
    refine (does_move (u := (Bo ((!β8) || β9))) (ev rfl)).mono ?_; rintro _ _ ⟨rfl, rfl⟩
    exact ⟨rfl, Ext.refl _⟩
  refine RW_d _ rfl (fun v => by dsimp only [List.set]; try rfl) (fun u hu hF => ?_) (fun v343 => ?_)
  · have h104_ : v342 = (Bo ((!β8) || β9)) := hF.1
    clear hF
    obtain rfl := h104_
    refine doesG_g (b := ((!β8) || β9)) rfl (yld rfl rfl) (fun hg1 => ?_) (fun hc => ⟨fun hg1 => absurd hg1 hc, Ext.refl _⟩)
    refine (does_move (u := (Bo (sprB A_g))) (ev rfl)).mono ?_; rintro _ _ ⟨rfl, rfl⟩
    exact ⟨fun _ => rfl, Ext.refl _⟩
  refine RW_d _ rfl (fun v => by dsimp only [List.set]; try rfl) (fun u hu hF => ?_) (fun v344 => ?_)
  · have h104_ : v342 = (Bo ((!β8) || β9)) := hF.1
    clear hF
    obtain rfl := h104_
    refine doesG_g (b := ((!β8) || β9)) rfl (yld rfl rfl) (fun hg1 => ?_) (fun hc => ⟨fun hg1 => absurd hg1 hc, Ext.refl _⟩)
    refine (does_move (u := (Bo (sprB A_g))) (ev rfl)).mono ?_; rintro _ _ ⟨rfl, rfl⟩
    exact ⟨fun _ => rfl, Ext.refl _⟩
  refine RW_d _ rfl (fun v => by dsimp only [List.set]; try rfl) (fun u hu hF => ?_) (fun v345 => ?_)
  · have h105_ : ((!β8) || β9) = false → v343 = (Bo (sprB A_g)) := hF.1
    have h106_ : ((!β8) || β9) = false → v344 = (Bo (sprB A_g)) := hF.2.1
    have h104_ : v342 = (Bo ((!β8) || β9)) := hF.2.2.1
    clear hF
    obtain rfl := h104_
    refine doesG_g (b := ((!β8) || β9)) rfl (yld rfl rfl) (fun hg1 => ?_) (fun hc => ⟨fun hg1 => absurd hg1 hc, Ext.refl _⟩)
    obtain rfl := h105_ hg1
    obtain rfl := h106_ hg1
    refine (does_bne (p := (sprB A_g)) (q := (sprB A_g)) Try.underlying4 (ev rfl) (ev rfl)).mono ?_; rintro _ _ ⟨rfl, rfl⟩
    exact ⟨fun _ => rfl, Ext.refl _⟩
  refine RW_d _ rfl (fun v => by dsimp only [List.set]; try rfl) (fun u hu hF => ?_) (fun v346 => ?_)
  · have h104_ : v342 = (Bo ((!β8) || β9)) := hF.1
    have h107_ : ((!β8) || β9) = false → v345 = (Bo ((sprB A_g) != (sprB A_g))) := hF.2.1
    clear hF
    refine doesG_un rfl ?_
    skip
    obtain rfl := h104_
    refine (does_pick (b := ((!β8) || β9)) (ev rfl) (ev rfl) (ev rfl)).mono ?_; rintro _ _ ⟨rfl, rfl⟩; refine ⟨?_, Ext.refl _⟩; rw [hβ10]; skip
    cases hbb : ((!β8) || β9)
    all_goals first | rfl | (have e_ := h107_ hbb; subst e_; rfl) | (simp [hbb] at h107_ ⊢; first | done | rfl | (subst h107_; rfl) | simp_all) | (simp [hbb] at h107_ ⊢; done)
  refine RW_fin ?_; intro w347 E348 hP349
  obtain ⟨⟨⟨⟨⟨⟨⟨⟨⟨⟨⟨⟨⟨⟨-, -⟩, -⟩, -⟩, -⟩, -⟩, -⟩, -⟩, -⟩, -⟩, -⟩, -⟩, -⟩, -⟩, q350⟩ := hP349
  have X351 := Ext.gr X330 E348
  have q350 : v346 = (Bo β10) := q350
  obtain rfl := q350
  show wpList _ _ _ _ (fr [_, _, _, _, _, _, _, _, _, _, _, _, _, _, _, _, _, _, _, _, _, _, _, _, _, _, _, _, _, _, _, _, _, _, _, _, _, _, _, _, _, _, _, _, _, _, _, _, _, _, _, _, _, _, _, _, _, _, _, _, _, _, _, _, _, _, _, _, _, _, _, _, _, _, _, _, _, _, _, _, _, _, _, _, _, _, _, _, _, _, _, _, _, _, _, _, _, _, _, _, _, _, _, _, _, _, _, _, _, _, _, _, _, _, _, _, _]) _
  refine wpList_nil (hK332 _ _ ?_)
  refine wp_cond_split (t := β10) (ev rfl) (fun c352 => ?_) (fun c352 => ?_)
  · have c352' := c352
    (try simp only [hβ1, hβ2, hβ3, hβ4, hβ5, hβ6, hβ7, hβ8, hβ9, hβ10, sameG_self, bne_self_eq_false] at c352')
    (try simp only [hβ1, hβ2, hβ3, hβ4, hβ5, hβ6, hβ7, hβ8, hβ9, hβ10] at c352')
    (try simp only [icmp, Bool.and_eq_true, Bool.or_eq_true, Bool.and_eq_false_iff, Bool.or_eq_false_iff, Bool.not_eq_true', Bool.not_eq_false', decide_eq_true_eq, decide_eq_false_iff_not, beq_iff_eq, bne_iff_ne, beq_eq_false_iff_ne, bne_eq_false_iff_eq] at c352')
    refine wp_seq_k fun K353 hK353 => ?_
    refine wp_region_lit ?_
    refine q_is rfl rfl (does_assign (u := (Bo false)) (ev rfl)) (by dsimp only [List.set]; try rfl) ?_
    refine wpList_nil (hK353 _ _ ?_)
    refine wp_ret ?_
    dsimp only [Exit.then, Exit.inBlock]
    refine ret_val (v := (Bo false)) (res_T rfl (slot rfl)) X351 ?_
    try simp only [h2, h4, h6, h8, h43, h45, h47, h49, h63, h65, h67, h69, h98, h100, h102, h104, h136, h138, h140, h142, hβ1, hβ2, hβ3, hβ4, hβ5, hβ6, hβ7, h278, h280, h282, h284, h303, h305, h307, h309, hβ8, hβ9, hβ10, sameG_self, bne_self_eq_false] at c31 c184 c203 c239 c257 c262 c352
    have x354 : true = false := by first | with_reducible rfl | (exfalso; omega) | (exfalso; simp only [mkL_len] at * <;> omega) | (exfalso; rcases c352' with ((hh | hh) | hh) | hh <;> first | omega | (exact Bool.noConfusion hh) | (exact absurd rfl hh)) | (exfalso; rcases c352' with (hh | hh) | hh <;> first | omega | (exact Bool.noConfusion hh)) | (exfalso; rcases c352' with hh | hh <;> first | omega | (exact Bool.noConfusion hh)) | (simp only [sameG_self, bne_self_eq_false, icmp, h2, h4, h6, h8, h43, h45, h47, h49, h63, h65, h67, h69, h98, h100, h102, h104, h136, h138, h140, h142, hβ1, hβ2, hβ3, hβ4, hβ5, hβ6, hβ7, h278, h280, h282, h284, h303, h305, h307, h309, hβ8, hβ9, hβ10, c31, c184, c203, c239, c257, c262, c352]; done) | (simp [sameG_self, bne_self_eq_false, icmp, h2, h4, h6, h8, h43, h45, h47, h49, h63, h65, h67, h69, h98, h100, h102, h104, h136, h138, h140, h142, hβ1, hβ2, hβ3, hβ4, hβ5, hβ6, hβ7, h278, h280, h282, h284, h303, h305, h307, h309, hβ8, hβ9, hβ10, c31, c184, c203, c239, c257, c262, c352]; done) | (simp_all; done) | (exfalso; simp_all; done)
    exact (by first | rfl | rw [x354])
  have c352' := c352
  (try simp only [hβ1, hβ2, hβ3, hβ4, hβ5, hβ6, hβ7, hβ8, hβ9, hβ10, sameG_self, bne_self_eq_false] at c352')
  (try simp only [hβ1, hβ2, hβ3, hβ4, hβ5, hβ6, hβ7, hβ8, hβ9, hβ10] at c352')
  (try simp only [icmp, Bool.and_eq_true, Bool.or_eq_true, Bool.and_eq_false_iff, Bool.or_eq_false_iff, Bool.not_eq_true', Bool.not_eq_false', decide_eq_true_eq, decide_eq_false_iff_not, beq_iff_eq, bne_iff_ne, beq_eq_false_iff_ne, bne_eq_false_iff_eq] at c352')
  refine wp_skip (hK331 _ _ ?_)
  refine wp_seq_k fun K355 hK355 => ?_
  refine wp_region_lit ?_
  refine q_is rfl rfl (does_assign (u := (Iv 1)) (ev rfl)) (by dsimp only [List.set]; try rfl) ?_
  refine wpList_nil (hK355 _ _ ?_)
  refine wp_seq_k fun K356 hK356 => ?_
  refine wp_region_lit ?_
  refine q_is rfl rfl (does_loadAgg (cs := [(Fl r135), (Fl r137), (Fl r139), (Fl r141), (Iv ((sprG A_g).x)), (Iv ((sprG A_g).y)), (Iv ((sprG A_g).z)), (.slice p145 (((sprG A_g).vals).length) q146)]) (ev rfl) Try.isAgg31 Try.sizeOf31 (Blk.cells ((((((((((((hB160.ext E180).ext E190).ext E199).kl K209 (fun hc => absurd (Nat.lt_of_lt_of_le (hw110.1 _ hc).2 (Nat.le_trans (Nat.le_trans (Nat.le_trans (Below.size E114) (Nat.le_of_eq (Eq.symm (Wr.size W120)))) (Below.size E125)) hb150)) (Nat.lt_irrefl _))).ext E235).kl K245 (fun hc => absurd (Nat.lt_of_lt_of_le (hw148.1 _ hc).2 (Nat.le_trans (Nat.le_refl _) hb150)) (Nat.lt_irrefl _))).ext E252).ext E266).ext E291).ext E319).wr W327 (Nat.ne_of_lt n324)).ext E348)) rfl) (by dsimp only [List.set]; try rfl) ?_
  refine q_is rfl rfl (does_move (u := (Iv 1)) (ev rfl)) (by dsimp only [List.set]; try rfl) ?_
  refine seqd rfl rfl (does_call (args := #[(.agg #[(Fl r135), (Fl r137), (Fl r139), (Fl r141), (Iv ((sprG A_g).x)), (Iv ((sprG A_g).y)), (Iv ((sprG A_g).z)), (.slice p145 (((sprG A_g).vals).length) q146)]), (Iv 1)]) cal13 (evs rfl) (c_laws_heldGrid [(Fl r135), (Fl r137), (Fl r139), (Fl r141), (Iv ((sprG A_g).x)), (Iv ((sprG A_g).y)), (Iv ((sprG A_g).z)), (.slice p145 (((sprG A_g).vals).length) q146)] (GridT.mk (sprG A_g).low ((sprG A_g).step) ((sprG A_g).x) ((sprG A_g).y) ((sprG A_g).z) (mkL fF 1 1 ((sprG A_g).vals).length)) 1 _ ⟨r135, r137, r139, r141, (.slice p145 (((sprG A_g).vals).length) q146), rfl, h136, h138, h140, h142, (hM246 _ (((((((Same.refl _ _).ext E252).ext E266).ext E291).ext E319).wr W327 (.inr (Nat.le_trans (Nat.le_trans (Nat.le_trans (Below.size E252) (Below.size E266)) (Below.size E291)) hb317))).ext E348))⟩ (by exact mkL_eq) (by omega) (by (try dsimp only); rw [mkL_len]; omega))) ?_; rintro _ w358 ⟨E357, rfl⟩
  have X359 := Ext.gr X351 E357
  show wpList _ _ _ _ (fr [_, _, _, _, _, _, _, _, _, _, _, _, _, _, _, _, _, _, _, _, _, _, _, _, _, _, _, _, _, _, _, _, _, _, _, _, _, _, _, _, _, _, _, _, _, _, _, _, _, _, _, _, _, _, _, _, _, _, _, _, _, _, _, _, _, _, _, _, _, _, _, _, _, _, _, _, _, _, _, _, _, _, _, _, _, _, _, _, _, _, _, _, _, _, _, _, _, _, _, _, _, _, _, _, _, _, _, _, _, _, _, _, _, _, _, _, _]) _
  refine q_is rfl rfl (does_assign (u := (Iv (1 + ((mkL fF 1 1 ((sprG A_g).vals).length).length : Int) * 1))) (ev rfl)) (by dsimp only [List.set]; try rfl) ?_
  refine wpList_nil (hK356 _ _ ?_)
  refine wp_seq_k fun K360 hK360 => ?_
  refine wp_seq_k fun K361 hK361 => ?_
  refine wp_region_lit ?_
  refine q_is rfl rfl (does_move (u := (Iv (1 + ((mkL fF 1 1 ((sprG A_g).vals).length).length : Int) * 1))) (ev rfl)) (by dsimp only [List.set]; try rfl) ?_
  refine q_is rfl rfl (does_icmp (p := 1 + ((mkL fF 1 1 ((sprG A_g).vals).length).length : Int) * 1) (q := 0) (.inr (.inr (.inl rfl))) (ev rfl) (ev rfl)) (by dsimp only [List.set]; try rfl) ?_
  refine wpList_nil (hK361 _ _ ?_)
  refine wp_cond_false ((ev (rfl : evl _ _ = .bool (icmp .lss (1 + ((mkL fF 1 1 ((sprG A_g).vals).length).length : Int) * 1) 0))).trans (congrArg Value.bool c257)) ?_
  refine wp_skip (hK360 _ _ ?_)
  refine wp_seq_k fun K362 hK362 => ?_
  refine wp_seq_k fun K363 hK363 => ?_
  refine wp_region_lit ?_
  refine q_is rfl rfl (does_move (u := (Iv (1 + ((mkL fF 1 1 ((sprG A_g).vals).length).length : Int) * 1))) (ev rfl)) (by dsimp only [List.set]; try rfl) ?_
  refine q_is rfl rfl (does_move (u := (Iv (1 + (((sprG A_g).vals).length : Int) * 1))) (ev rfl)) (by dsimp only [List.set]; try rfl) ?_
  refine q_is rfl rfl (does_icmp (p := 1 + ((mkL fF 1 1 ((sprG A_g).vals).length).length : Int) * 1) (q := 1 + (((sprG A_g).vals).length : Int) * 1) (.inr (.inl rfl)) (ev rfl) (ev rfl)) (by dsimp only [List.set]; try rfl) ?_
  refine wpList_nil (hK363 _ _ ?_)
  refine wp_cond_false ((ev (rfl : evl _ _ = .bool (icmp .neq (1 + ((mkL fF 1 1 ((sprG A_g).vals).length).length : Int) * 1) (1 + (((sprG A_g).vals).length : Int) * 1)))).trans (congrArg Value.bool c262)) ?_
  refine wp_skip (hK362 _ _ ?_)
  refine wp_seq_k fun K364 hK364 => ?_
  refine wp_region_lit ?_
  refine q_is rfl rfl (does_assign (u := (Bo true)) (ev rfl)) (by dsimp only [List.set]; try rfl) ?_
  refine wpList_nil (hK364 _ _ ?_)
  refine wp_ret ?_
  refine ret_val (v := (Bo true)) (res_T rfl (slot rfl)) X359 ?_
  try simp only [h2, h4, h6, h8, h43, h45, h47, h49, h63, h65, h67, h69, h98, h100, h102, h104, h136, h138, h140, h142, hβ1, hβ2, hβ3, hβ4, hβ5, hβ6, hβ7, h278, h280, h282, h284, h303, h305, h307, h309, hβ8, hβ9, hβ10, sameG_self, bne_self_eq_false] at c31 c184 c203 c239 c257 c262 c352
  exact rfl

end Go.Proofs.Ytffmjlalacnfiaa
