/- contracts of functions, each walked once -/
import Derived.Test.YtgmpdiehpimpnaaN3
namespace Go.Proofs.Ytgmpdiehpimpnaa
open Go Go.RowKit
set_option maxRecDepth 100000
set_option maxHeartbeats 3200000
set_option linter.unusedVariables false
set_option linter.unusedSimpArgs false

/- (*impl.Step).ok -/
theorem c_impl_Step_ok (s__b : Nat) (s__o : Nat) (s_ : List Value) (A_s_ : StepT) (p_b : Nat) (p_o : Nat) (p : List Value) (A_p : ProgT) (w : World) (hc_s_ : Cells w s__b s__o s_) (hv_s_ : RStepT w A_s_ s_) (hc_p : Cells w p_b p_o p) (hv_p : RProgT w A_p p) : Gives Try.prog 56 #[(Pt s__b s__o), (Pt p_b p_o)] w (fun v w' => v = (Bo (stepOk A_p A_s_))) := by
  obtain ⟨y1, rfl, h2⟩ := hv_s_
  obtain ⟨y3, rfl, h4⟩ := hv_p
  have hs7 := h2; have hs7l := Sl.len h2; obtain ⟨p5, q6, rfl⟩ := Sl.shape h2
  have hs10 := h4; have hs10l := Sl.len h4; obtain ⟨p8, q9, rfl⟩ := Sl.shape h4
  refine enter [(Pt s__b s__o), (Pt p_b p_o), Ud, Ud, Ud, Ud, Ud, Ud, Ud, Ud, Ud, Ud, Ud, Ud, Ud, Ud, Ud, Ud, Ud, Ud, Ud, Ud, Ud, Ud, Ud, Ud, Ud, Ud, Ud, Ud, Ud, Ud, Ud, Ud, Ud, Ud, Ud, Ud, Ud, Ud, Ud, Ud, Ud, Ud, Ud, Ud, Ud, Ud, Ud, Ud, Ud, Ud, Ud, Ud, Ud, Ud, Ud, Ud, Ud, Ud, Ud, Ud, Ud, Ud, Ud, Ud, Ud, Ud, Ud, Ud, Ud, Ud, Ud, Ud, Ud, Ud, Ud, Ud, Ud, Ud, Ud, Ud, Ud, Ud, Ud, Ud, Ud, Ud, Ud, Ud, Ud, Ud, Ud, Ud, Ud, Ud, Ud, Ud, Ud, Ud, Ud, Ud, Ud, Ud, Ud, Ud, Ud, Ud, Ud, Ud, Ud, Ud, Ud, Ud, Ud, Ud, Ud, Ud, Ud, Ud, Ud, Ud, Ud, Ud, Ud, Ud, Ud, Ud, Ud, Ud, Ud, Ud, Ud, Ud, Ud, Ud, Ud, Ud, Ud, Ud, Ud, Ud, Ud, Ud, Ud, Ud, Ud, Ud, Ud, Ud, Ud, Ud, Ud, Ud, Ud, Ud, Ud, Ud, Ud, Ud, Ud, Ud, Ud, Ud, Ud, Ud, Ud, Ud, Ud, Ud, Ud, Ud, Ud, Ud, Ud, Ud, Ud, Ud, Ud, Ud, Ud, Ud, Ud, Ud, Ud, Ud, Ud, Ud, Ud, Ud, Ud, Ud, Ud, Ud, Ud] Try.func56 rfl Try.ntmps56 rfl ?_
  refine wp_seq_k fun K11 hK11 => ?_
  refine wp_region_lit ?_
  refine seqd rfl rfl (does_box (u := (Pt p_b p_o)) (ev rfl)) ?_; rintro _ w16 ⟨b12, rfl, hb13, hB14, E15⟩
  have n17 : s__b < b12 := Nat.lt_of_lt_of_le (cell_lt (Cells.at hc_s_ 0 rfl)) hb13
  have n18 : p_b < b12 := Nat.lt_of_lt_of_le (cell_lt (Cells.at hc_p 0 rfl)) hb13
  have g19 : w.heap.size ≤ b12 := Nat.le_trans (Below.size (Ext.refl w)) hb13
  change Blk _ _ [(Pt p_b p_o)] at hB14
  have X20 := Ext.gr (Ext.refl w) E15
  show wpList _ _ _ _ (fr [(Pt s__b s__o), (Pt p_b p_o), Ud, (Pt b12 0), Ud, Ud, Ud, Ud, Ud, Ud, Ud, Ud, Ud, Ud, Ud, Ud, Ud, Ud, Ud, Ud, Ud, Ud, Ud, Ud, Ud, Ud, Ud, Ud, Ud, Ud, Ud, Ud, Ud, Ud, Ud, Ud, Ud, Ud, Ud, Ud, Ud, Ud, Ud, Ud, Ud, Ud, Ud, Ud, Ud, Ud, Ud, Ud, Ud, Ud, Ud, Ud, Ud, Ud, Ud, Ud, Ud, Ud, Ud, Ud, Ud, Ud, Ud, Ud, Ud, Ud, Ud, Ud, Ud, Ud, Ud, Ud, Ud, Ud, Ud, Ud, Ud, Ud, Ud, Ud, Ud, Ud, Ud, Ud, Ud, Ud, Ud, Ud, Ud, Ud, Ud, Ud, Ud, Ud, Ud, Ud, Ud, Ud, Ud, Ud, Ud, Ud, Ud, Ud, Ud, Ud, Ud, Ud, Ud, Ud, Ud, Ud, Ud, Ud, Ud, Ud, Ud, Ud, Ud, Ud, Ud, Ud, Ud, Ud, Ud, Ud, Ud, Ud, Ud, Ud, Ud, Ud, Ud, Ud, Ud, Ud, Ud, Ud, Ud, Ud, Ud, Ud, Ud, Ud, Ud, Ud, Ud, Ud, Ud, Ud, Ud, Ud, Ud, Ud, Ud, Ud, Ud, Ud, Ud, Ud, Ud, Ud, Ud, Ud, Ud, Ud, Ud, Ud, Ud, Ud, Ud, Ud, Ud, Ud, Ud, Ud, Ud, Ud, Ud, Ud, Ud, Ud, Ud, Ud, Ud, Ud, Ud, Ud, Ud, Ud, Ud]) _
  refine q_is rfl rfl (does_assign (u := (Bo false)) (ev rfl)) (by dsimp only [List.set]; try rfl) ?_
  refine wpList_nil (hK11 _ _ ?_)
  refine wp_seq_k fun K21 hK21 => ?_
  refine wp_region_lit ?_
  refine q_is rfl rfl (does_move (u := (Pt s__b s__o)) (ev rfl)) (by dsimp only [List.set]; try rfl) ?_
  refine q_is rfl rfl (does_nilCheck (ev rfl)) (by dsimp only [List.set]; try rfl) ?_
  refine q_is rfl rfl (does_fieldAddr (ev rfl) fa100_4) (by dsimp only [List.set]; try rfl) ?_
  refine q_is rfl rfl (does_fieldAddr (ev rfl) fa27_0) (by dsimp only [List.set]; try rfl) ?_
  refine q_is rfl rfl (does_load (u := (Iv A_s_.node.kind)) (ev rfl) Try.isAgg2 (Cells.at (hc_s_.ext X20) 4 rfl)) (by dsimp only [List.set]; try rfl) ?_
  refine seqd rfl rfl (does_call (args := #[(Iv A_s_.node.kind)]) cal86 (evs rfl) (c_impl_ruleOf A_s_.node.kind _)) ?_; rintro _ w23 ⟨E22, ⟨_, rfl, rfl⟩⟩
  have X24 := Ext.gr X20 E22
  show wpList _ _ _ _ (fr [(Pt s__b s__o), (Pt p_b p_o), Ud, (Pt b12 0), (Bo false), Ud, Ud, Ud, Ud, Ud, Ud, (Pt s__b s__o), (Pt s__b s__o), (Pt s__b (s__o + 4)), (Pt s__b (s__o + 4)), (Iv A_s_.node.kind), (.tuple #[(.agg #[(Iv ((ruleP A_s_.node.kind).num)), (Iv ((ruleP A_s_.node.kind).ch)), (Bo ((ruleP A_s_.node.kind).ax)), (Iv ((ruleP A_s_.node.kind).sg))]), (Bo (rlOk A_s_.node.kind))]), Ud, Ud, Ud, Ud, Ud, Ud, Ud, Ud, Ud, Ud, Ud, Ud, Ud, Ud, Ud, Ud, Ud, Ud, Ud, Ud, Ud, Ud, Ud, Ud, Ud, Ud, Ud, Ud, Ud, Ud, Ud, Ud, Ud, Ud, Ud, Ud, Ud, Ud, Ud, Ud, Ud, Ud, Ud, Ud, Ud, Ud, Ud, Ud, Ud, Ud, Ud, Ud, Ud, Ud, Ud, Ud, Ud, Ud, Ud, Ud, Ud, Ud, Ud, Ud, Ud, Ud, Ud, Ud, Ud, Ud, Ud, Ud, Ud, Ud, Ud, Ud, Ud, Ud, Ud, Ud, Ud, Ud, Ud, Ud, Ud, Ud, Ud, Ud, Ud, Ud, Ud, Ud, Ud, Ud, Ud, Ud, Ud, Ud, Ud, Ud, Ud, Ud, Ud, Ud, Ud, Ud, Ud, Ud, Ud, Ud, Ud, Ud, Ud, Ud, Ud, Ud, Ud, Ud, Ud, Ud, Ud, Ud, Ud, Ud, Ud, Ud, Ud, Ud, Ud, Ud, Ud, Ud, Ud, Ud, Ud, Ud, Ud, Ud, Ud, Ud, Ud, Ud, Ud, Ud, Ud, Ud, Ud, Ud, Ud, Ud, Ud, Ud, Ud, Ud, Ud, Ud, Ud, Ud, Ud, Ud, Ud, Ud, Ud, Ud, Ud, Ud, Ud, Ud, Ud, Ud, Ud, Ud, Ud, Ud, Ud, Ud, Ud, Ud]) _
  refine q_is rfl rfl (does_move (u := (.tuple #[(.agg #[(Iv ((ruleP A_s_.node.kind).num)), (Iv ((ruleP A_s_.node.kind).ch)), (Bo ((ruleP A_s_.node.kind).ax)), (Iv ((ruleP A_s_.node.kind).sg))]), (Bo (rlOk A_s_.node.kind))])) (ev rfl)) (by dsimp only [List.set]; try rfl) ?_
  refine q_is rfl rfl (does_extract (vs := #[(.agg #[(Iv ((ruleP A_s_.node.kind).num)), (Iv ((ruleP A_s_.node.kind).ch)), (Bo ((ruleP A_s_.node.kind).ax)), (Iv ((ruleP A_s_.node.kind).sg))]), (Bo (rlOk A_s_.node.kind))]) (u := (.agg #[(Iv ((ruleP A_s_.node.kind).num)), (Iv ((ruleP A_s_.node.kind).ch)), (Bo ((ruleP A_s_.node.kind).ax)), (Iv ((ruleP A_s_.node.kind).sg))])) (ev rfl) rfl) (by dsimp only [List.set]; try rfl) ?_
  refine q_is rfl rfl (does_extract (vs := #[(.agg #[(Iv ((ruleP A_s_.node.kind).num)), (Iv ((ruleP A_s_.node.kind).ch)), (Bo ((ruleP A_s_.node.kind).ax)), (Iv ((ruleP A_s_.node.kind).sg))]), (Bo (rlOk A_s_.node.kind))]) (u := (Bo (rlOk A_s_.node.kind))) (ev rfl) rfl) (by dsimp only [List.set]; try rfl) ?_
  refine seqd rfl rfl (does_alloc z140) ?_; rintro _ w29 ⟨b25, rfl, hb26, hB27, E28⟩
  have n30 : s__b < b25 := Nat.lt_of_lt_of_le (cell_lt (Cells.at (hc_s_.ext X24) 0 rfl)) hb26
  have n31 : p_b < b25 := Nat.lt_of_lt_of_le (cell_lt (Cells.at (hc_p.ext X24) 0 rfl)) hb26
  have n32 : b12 < b25 := Nat.lt_of_lt_of_le (Blk.lt (hB14.ext E22)) hb26
  have g33 : w.heap.size ≤ b25 := Nat.le_trans (Below.size X24) hb26
  change Blk _ _ [(Iv 0), (Iv 0), (Bo false), (Iv 0)] at hB27
  have X34 := Ext.gr X24 E28
  show wpList _ _ _ _ (fr [(Pt s__b s__o), (Pt p_b p_o), Ud, (Pt b12 0), (Bo false), (Pt b25 0), Ud, Ud, Ud, Ud, (.tuple #[(.agg #[(Iv ((ruleP A_s_.node.kind).num)), (Iv ((ruleP A_s_.node.kind).ch)), (Bo ((ruleP A_s_.node.kind).ax)), (Iv ((ruleP A_s_.node.kind).sg))]), (Bo (rlOk A_s_.node.kind))]), (Pt s__b s__o), (Pt s__b s__o), (Pt s__b (s__o + 4)), (Pt s__b (s__o + 4)), (Iv A_s_.node.kind), (.tuple #[(.agg #[(Iv ((ruleP A_s_.node.kind).num)), (Iv ((ruleP A_s_.node.kind).ch)), (Bo ((ruleP A_s_.node.kind).ax)), (Iv ((ruleP A_s_.node.kind).sg))]), (Bo (rlOk A_s_.node.kind))]), (.agg #[(Iv ((ruleP A_s_.node.kind).num)), (Iv ((ruleP A_s_.node.kind).ch)), (Bo ((ruleP A_s_.node.kind).ax)), (Iv ((ruleP A_s_.node.kind).sg))]), (Bo (rlOk A_s_.node.kind)), Ud, Ud, Ud, Ud, Ud, Ud, Ud, Ud, Ud, Ud, Ud, Ud, Ud, Ud, Ud, Ud, Ud, Ud, Ud, Ud, Ud, Ud, Ud, Ud, Ud, Ud, Ud, Ud, Ud, Ud, Ud, Ud, Ud, Ud, Ud, Ud, Ud, Ud, Ud, Ud, Ud, Ud, Ud, Ud, Ud, Ud, Ud, Ud, Ud, Ud, Ud, Ud, Ud, Ud, Ud, Ud, Ud, Ud, Ud, Ud, Ud, Ud, Ud, Ud, Ud, Ud, Ud, Ud, Ud, Ud, Ud, Ud, Ud, Ud, Ud, Ud, Ud, Ud, Ud, Ud, Ud, Ud, Ud, Ud, Ud, Ud, Ud, Ud, Ud, Ud, Ud, Ud, Ud, Ud, Ud, Ud, Ud, Ud, Ud, Ud, Ud, Ud, Ud, Ud, Ud, Ud, Ud, Ud, Ud, Ud, Ud, Ud, Ud, Ud, Ud, Ud, Ud, Ud, Ud, Ud, Ud, Ud, Ud, Ud, Ud, Ud, Ud, Ud, Ud, Ud, Ud, Ud, Ud, Ud, Ud, Ud, Ud, Ud, Ud, Ud, Ud, Ud, Ud, Ud, Ud, Ud, Ud, Ud, Ud, Ud, Ud, Ud, Ud, Ud, Ud, Ud, Ud, Ud, Ud, Ud, Ud, Ud, Ud, Ud, Ud, Ud, Ud, Ud, Ud, Ud, Ud, Ud, Ud, Ud, Ud, Ud]) _
  refine seqn rfl rfl (does_store (n := 4) (cs := [(Iv 0), (Iv 0), (Bo false), (Iv 0)]) (u := (.agg #[(Iv ((ruleP A_s_.node.kind).num)), (Iv ((ruleP A_s_.node.kind).ch)), (Bo ((ruleP A_s_.node.kind).ax)), (Iv ((ruleP A_s_.node.kind).sg))])) (ev rfl) (ev rfl) Try.sizeOf140 rfl hB27 (Nat.le_of_ble_eq_true rfl) rfl) ?_; rintro _ w37 ⟨rfl, W35, hB36⟩
  change Blk _ _ [(Iv ((ruleP A_s_.node.kind).num)), (Iv ((ruleP A_s_.node.kind).ch)), (Bo ((ruleP A_s_.node.kind).ax)), (Iv ((ruleP A_s_.node.kind).sg))] at hB36
  have X38 := Below.wr X34 W35 g33
  refine q_is rfl rfl (does_assign (u := (Bo (rlOk A_s_.node.kind))) (ev rfl)) (by dsimp only [List.set]; try rfl) ?_
  refine wpList_nil (hK21 _ _ ?_)
  refine wp_seq_k fun K39 hK39 => ?_
  refine wp_seq_k fun K40 hK40 => ?_
  obtain ⟨β1, hβ1⟩ : ∃ b : Bool, b = (rlOk A_s_.node.kind && nodeNums A_s_.node.kind A_s_.node.nums) := ⟨_, rfl⟩
  obtain ⟨β2, hβ2⟩ : ∃ b : Bool, b = ((!(rlOk A_s_.node.kind)) || (!β1)) := ⟨_, rfl⟩
  obtain ⟨β3, hβ3⟩ : ∃ b : Bool, b = (β2 || (icmp .neq A_s_.node.a 0)) := ⟨_, rfl⟩
  obtain ⟨β4, hβ4⟩ : ∃ b : Bool, b = ((ruleP A_s_.node.kind).ax) := ⟨_, rfl⟩
  obtain ⟨β5, hβ5⟩ : ∃ b : Bool, b = (β4 && (inI A_s_.node.b 0 2)) := ⟨_, rfl⟩
  obtain ⟨β6, hβ6⟩ : ∃ b : Bool, b = ((icmp .neq A_s_.node.b 0) && (!β5)) := ⟨_, rfl⟩
  refine region_draw (
    [Fact.pure [] (fun v => v = (Bo (rlOk A_s_.node.kind))),
    Fact.pure [19] (fun v => v = (Bo (!(rlOk A_s_.node.kind)))),
    Fact.pure [20] (fun v => v = (Bo (!(rlOk A_s_.node.kind)))),
    Fact.pure [21] (fun v => (!(rlOk A_s_.node.kind)) = false → v = (Pt s__b s__o)),
    Fact.pure [22, 21] (fun v => (!(rlOk A_s_.node.kind)) = false → v = (Pt s__b s__o)),
    Fact.pure [23, 21] (fun v => (!(rlOk A_s_.node.kind)) = false → v = (Pt s__b (s__o + 4))),
    Fact.pure [24, 21] (fun v => (!(rlOk A_s_.node.kind)) = false → v = (Pt s__b (s__o + 4))),
    Fact.pure [25, 21] (fun v => (!(rlOk A_s_.node.kind)) = false → v = (Iv A_s_.node.kind)),
    Fact.pure [21] (fun v => (!(rlOk A_s_.node.kind)) = false → v = (Pt s__b s__o)),
    Fact.pure [27, 21] (fun v => (!(rlOk A_s_.node.kind)) = false → v = (Pt s__b s__o)),
    Fact.pure [28, 21] (fun v => (!(rlOk A_s_.node.kind)) = false → v = (Pt s__b (s__o + 4))),
    Fact.pure [29, 21] (fun v => (!(rlOk A_s_.node.kind)) = false → v = (Pt s__b (s__o + 7))),
    Fact.pure [30, 21] (fun v => (!(rlOk A_s_.node.kind)) = false → v = (.slice p5 A_s_.node.nums.length q6)),
    Fact.pure [26, 31, 21] (fun v => (!(rlOk A_s_.node.kind)) = false → v = (Bo β1)),
    Fact.pure [32, 21] (fun v => (!(rlOk A_s_.node.kind)) = false → v = (Bo (!β1))),
    Fact.pure [21, 33] (fun v => v = (Bo β2)),
    Fact.pure [34] (fun v => v = (Bo β2)),
    Fact.pure [35] (fun v => β2 = false → v = (Pt s__b s__o)),
    Fact.pure [36, 35] (fun v => β2 = false → v = (Pt s__b s__o)),
    Fact.pure [37, 35] (fun v => β2 = false → v = (Pt s__b (s__o + 4))),
    Fact.pure [38, 35] (fun v => β2 = false → v = (Pt s__b (s__o + 5))),
    Fact.pure [39, 35] (fun v => β2 = false → v = (Iv A_s_.node.a)),
    Fact.pure [40, 35] (fun v => β2 = false → v = (Bo (icmp .neq A_s_.node.a 0))),
    Fact.pure [35, 41] (fun v => v = (Bo β3)),
    Fact.pure [42] (fun v => v = (Bo β3)),
    Fact.pure [43] (fun v => β3 = false → v = (Pt s__b s__o)),
    Fact.pure [44, 43] (fun v => β3 = false → v = (Pt s__b s__o)),
    Fact.pure [45, 43] (fun v => β3 = false → v = (Pt s__b (s__o + 4))),
    Fact.pure [46, 43] (fun v => β3 = false → v = (Pt s__b (s__o + 6))),
    Fact.pure [47, 43] (fun v => β3 = false → v = (Iv A_s_.node.b)),
    Fact.pure [48, 43] (fun v => β3 = false → v = (Bo (icmp .neq A_s_.node.b 0))),
    Fact.pure [49, 43] (fun v => (β3 = false → v = (Bo (icmp .neq A_s_.node.b 0))) ∧ (¬ (β3 = false) → v = undef)),
    Fact.pure [50] (fun v => β3 = false → (icmp .neq A_s_.node.b 0) = true → v = (Pt b25 2)),
    Fact.pure [51, 50] (fun v => β3 = false → (icmp .neq A_s_.node.b 0) = true → v = (Bo β4)),
    Fact.pure [52, 50] (fun v => (β3 = false → (icmp .neq A_s_.node.b 0) = true → v = (Bo β4)) ∧ (¬ (β3 = false ∧ (icmp .neq A_s_.node.b 0) = true) → v = undef)),
    Fact.pure [53] (fun v => β3 = false → (icmp .neq A_s_.node.b 0) = true → β4 = true → v = (Pt s__b s__o)),
    Fact.pure [54, 53] (fun v => β3 = false → (icmp .neq A_s_.node.b 0) = true → β4 = true → v = (Pt s__b s__o)),
    Fact.pure [55, 53] (fun v => β3 = false → (icmp .neq A_s_.node.b 0) = true → β4 = true → v = (Pt s__b (s__o + 4))),
    Fact.pure [56, 53] (fun v => β3 = false → (icmp .neq A_s_.node.b 0) = true → β4 = true → v = (Pt s__b (s__o + 6))),
    Fact.pure [57, 53] (fun v => β3 = false → (icmp .neq A_s_.node.b 0) = true → β4 = true → v = (Iv A_s_.node.b)),
    Fact.pure [58, 53] (fun v => β3 = false → (icmp .neq A_s_.node.b 0) = true → β4 = true → v = (Bo (inI A_s_.node.b 0 2))),
    Fact.pure [53, 59, 50] (fun v => β3 = false → (icmp .neq A_s_.node.b 0) = true → v = (Bo β5)),
    Fact.pure [60, 50] (fun v => β3 = false → (icmp .neq A_s_.node.b 0) = true → v = (Bo (!β5))),
    Fact.pure [50, 61, 43] (fun v => β3 = false → v = (Bo β6)),
    Fact.pure [43, 62] (fun v => v = (Bo (β3 || β6)))]) mixed (by kernel_rfl) (by intro _ _ d _ _ h; cases d <;> exact h) ?_
  obtain ⟨w41, hw43⟩ : ∃ w', w' = World.drew w37 := ⟨_, rfl⟩; rw [← hw43]; have E42 : Ext w37 w41 := by rw [hw43]; exact Ext.draw _
  clear hw43
  have X44 := Ext.gr X38 E42
  refine RW_d _ rfl (fun v => by dsimp only [List.set]; try rfl) (fun u hu hF => ?_) (fun v45 => ?_)
  · clear hF
    refine doesG_un rfl ?_
    refine (does_move (u := (Bo (rlOk A_s_.node.kind))) (ev rfl)).mono ?_; rintro _ _ ⟨rfl, rfl⟩
    exact ⟨rfl, Ext.refl _⟩
  refine RW_d _ rfl (fun v => by dsimp only [List.set]; try rfl) (fun u hu hF => ?_) (fun v46 => ?_)
  · have h19_ : v45 = (Bo (rlOk A_s_.node.kind)) := hF.1
    clear hF
    refine doesG_un rfl ?_
    obtain rfl := h19_
    refine (does_not (ev rfl)).mono ?_; rintro _ _ ⟨rfl, rfl⟩
    exact ⟨rfl, Ext.refl _⟩
  refine RW_d _ rfl (fun v => by dsimp only [List.set]; try rfl) (fun u hu hF => ?_) (fun v47 => ?_)
  · have h20_ : v46 = (Bo (!(rlOk A_s_.node.kind))) := hF.1
    clear hF
    refine doesG_un rfl ?_
    obtain rfl := h20_
    refine (does_move (u := (Bo (!(rlOk A_s_.node.kind)))) (ev rfl)).mono ?_; rintro _ _ ⟨rfl, rfl⟩
    exact ⟨rfl, Ext.refl _⟩
  refine RW_d _ rfl (fun v => by dsimp only [List.set]; try rfl) (fun u hu hF => ?_) (fun v48 => ?_)
  · have h21_ : v47 = (Bo (!(rlOk A_s_.node.kind))) := hF.1
    clear hF
    obtain rfl := h21_
    refine doesG_g (b := (!(rlOk A_s_.node.kind))) rfl (yld rfl rfl) (fun hg1 => ?_) (fun hc => ⟨fun hg1 => absurd hg1 hc, Ext.refl _⟩)
    refine (does_move (u := (Pt s__b s__o)) (ev rfl)).mono ?_; rintro _ _ ⟨rfl, rfl⟩
    exact ⟨fun _ => rfl, Ext.refl _⟩
  refine RW_d _ rfl (fun v => by dsimp only [List.set]; try rfl) (fun u hu hF => ?_) (fun v49 => ?_)
  · have h22_ : (!(rlOk A_s_.node.kind)) = false → v48 = (Pt s__b s__o) := hF.1
    have h21_ : v47 = (Bo (!(rlOk A_s_.node.kind))) := hF.2.1
    clear hF
    obtain rfl := h21_
    refine doesG_g (b := (!(rlOk A_s_.node.kind))) rfl (yld rfl rfl) (fun hg1 => ?_) (fun hc => ⟨fun hg1 => absurd hg1 hc, Ext.refl _⟩)
    obtain rfl := h22_ hg1
    refine (does_nilCheck (ev rfl)).mono ?_; rintro _ _ ⟨rfl, rfl⟩
    exact ⟨fun _ => rfl, Ext.refl _⟩
  refine RW_d _ rfl (fun v => by dsimp only [List.set]; try rfl) (fun u hu hF => ?_) (fun v50 => ?_)
  · have h23_ : (!(rlOk A_s_.node.kind)) = false → v49 = (Pt s__b s__o) := hF.1
    have h21_ : v47 = (Bo (!(rlOk A_s_.node.kind))) := hF.2.1
    clear hF
    obtain rfl := h21_
    refine doesG_g (b := (!(rlOk A_s_.node.kind))) rfl (yld rfl rfl) (fun hg1 => ?_) (fun hc => ⟨fun hg1 => absurd hg1 hc, Ext.refl _⟩)
    obtain rfl := h23_ hg1
    refine (does_fieldAddr (ev rfl) fa100_4).mono ?_; rintro _ _ ⟨rfl, rfl⟩
    exact ⟨fun _ => rfl, Ext.refl _⟩
  refine RW_d _ rfl (fun v => by dsimp only [List.set]; try rfl) (fun u hu hF => ?_) (fun v51 => ?_)
  · have h24_ : (!(rlOk A_s_.node.kind)) = false → v50 = (Pt s__b (s__o + 4)) := hF.1
    have h21_ : v47 = (Bo (!(rlOk A_s_.node.kind))) := hF.2.1
    clear hF
    obtain rfl := h21_
    refine doesG_g (b := (!(rlOk A_s_.node.kind))) rfl (yld rfl rfl) (fun hg1 => ?_) (fun hc => ⟨fun hg1 => absurd hg1 hc, Ext.refl _⟩)
    obtain rfl := h24_ hg1
    refine (does_fieldAddr (ev rfl) fa27_0).mono ?_; rintro _ _ ⟨rfl, rfl⟩
    exact ⟨fun _ => rfl, Ext.refl _⟩
  refine RW_d _ rfl (fun v => by dsimp only [List.set]; try rfl) (fun u hu hF => ?_) (fun v52 => ?_)
  · have h25_ : (!(rlOk A_s_.node.kind)) = false → v51 = (Pt s__b (s__o + 4)) := hF.1
    have h21_ : v47 = (Bo (!(rlOk A_s_.node.kind))) := hF.2.1
    clear hF
    obtain rfl := h21_
    refine doesG_g (b := (!(rlOk A_s_.node.kind))) rfl (yld rfl rfl) (fun hg1 => ?_) (fun hc => ⟨fun hg1 => absurd hg1 hc, Ext.refl _⟩)
    obtain rfl := h25_ hg1
    refine (does_load (u := (Iv A_s_.node.kind)) (ev rfl) Try.isAgg2 (Cells.at ((hc_s_.ext (Ext.gr X38 E42)).ext hu) 4 rfl)).mono ?_; rintro _ _ ⟨rfl, rfl⟩
    exact ⟨fun _ => rfl, Ext.refl _⟩
  refine RW_d _ rfl (fun v => by dsimp only [List.set]; try rfl) (fun u hu hF => ?_) (fun v53 => ?_)
  · have h21_ : v47 = (Bo (!(rlOk A_s_.node.kind))) := hF.1
    clear hF
    obtain rfl := h21_
    refine doesG_g (b := (!(rlOk A_s_.node.kind))) rfl (yld rfl rfl) (fun hg1 => ?_) (fun hc => ⟨fun hg1 => absurd hg1 hc, Ext.refl _⟩)
    refine (does_move (u := (Pt s__b s__o)) (ev rfl)).mono ?_; rintro _ _ ⟨rfl, rfl⟩
    exact ⟨fun _ => rfl, Ext.refl _⟩
  refine RW_d _ rfl (fun v => by dsimp only [List.set]; try rfl) (fun u hu hF => ?_) (fun v54 => ?_)
  · have h27_ : (!(rlOk A_s_.node.kind)) = false → v53 = (Pt s__b s__o) := hF.1
    have h21_ : v47 = (Bo (!(rlOk A_s_.node.kind))) := hF.2.1
    clear hF
    obtain rfl := h21_
    refine doesG_g (b := (!(rlOk A_s_.node.kind))) rfl (yld rfl rfl) (fun hg1 => ?_) (fun hc => ⟨fun hg1 => absurd hg1 hc, Ext.refl _⟩)
    obtain rfl := h27_ hg1
    refine (does_nilCheck (ev rfl)).mono ?_; rintro _ _ ⟨rfl, rfl⟩
    exact ⟨fun _ => rfl, Ext.refl _⟩
  refine RW_d _ rfl (fun v => by dsimp only [List.set]; try rfl) (fun u hu hF => ?_) (fun v55 => ?_)
  · have h28_ : (!(rlOk A_s_.node.kind)) = false → v54 = (Pt s__b s__o) := hF.1
    have h21_ : v47 = (Bo (!(rlOk A_s_.node.kind))) := hF.2.1
    clear hF
    obtain rfl := h21_
    refine doesG_g (b := (!(rlOk A_s_.node.kind))) rfl (yld rfl rfl) (fun hg1 => ?_) (fun hc => ⟨fun hg1 => absurd hg1 hc, Ext.refl _⟩)
    obtain rfl := h28_ hg1
    refine (does_fieldAddr (ev rfl) fa100_4).mono ?_; rintro _ _ ⟨rfl, rfl⟩
    exact ⟨fun _ => rfl, Ext.refl _⟩
  refine RW_d _ rfl (fun v => by dsimp only [List.set]; try rfl) (fun u hu hF => ?_) (fun v56 => ?_)
  · have h29_ : (!(rlOk A_s_.node.kind)) = false → v55 = (Pt s__b (s__o + 4)) := hF.1
    have h21_ : v47 = (Bo (!(rlOk A_s_.node.kind))) := hF.2.1
    clear hF
    obtain rfl := h21_
    refine doesG_g (b := (!(rlOk A_s_.node.kind))) rfl (yld rfl rfl) (fun hg1 => ?_) (fun hc => ⟨fun hg1 => absurd hg1 hc, Ext.refl _⟩)
    obtain rfl := h29_ hg1
    refine (does_fieldAddr (ev rfl) fa27_3).mono ?_; rintro _ _ ⟨rfl, rfl⟩
    exact ⟨fun _ => rfl, Ext.refl _⟩
  refine RW_d _ rfl (fun v => by dsimp only [List.set]; try rfl) (fun u hu hF => ?_) (fun v57 => ?_)
  · have h30_ : (!(rlOk A_s_.node.kind)) = false → v56 = (Pt s__b (s__o + 7)) := hF.1
    have h21_ : v47 = (Bo (!(rlOk A_s_.node.kind))) := hF.2.1
    clear hF
    obtain rfl := h21_
    refine doesG_g (b := (!(rlOk A_s_.node.kind))) rfl (yld rfl rfl) (fun hg1 => ?_) (fun hc => ⟨fun hg1 => absurd hg1 hc, Ext.refl _⟩)
    obtain rfl := h30_ hg1
    refine (does_load (u := (.slice p5 A_s_.node.nums.length q6)) (ev rfl) Try.isAgg22 (Cells.at ((hc_s_.ext (Ext.gr X38 E42)).ext hu) 7 rfl)).mono ?_; rintro _ _ ⟨rfl, rfl⟩
    exact ⟨fun _ => rfl, Ext.refl _⟩
  refine RW_d _ rfl (fun v => by dsimp only [List.set]; try rfl) (fun u hu hF => ?_) (fun v58 => ?_)
  · have h26_ : (!(rlOk A_s_.node.kind)) = false → v52 = (Iv A_s_.node.kind) := hF.1
    have h31_ : (!(rlOk A_s_.node.kind)) = false → v57 = (.slice p5 A_s_.node.nums.length q6) := hF.2.1
    have h21_ : v47 = (Bo (!(rlOk A_s_.node.kind))) := hF.2.2.1
    clear hF
    obtain rfl := h21_
    refine doesG_g (b := (!(rlOk A_s_.node.kind))) rfl (yld rfl rfl) (fun hg1 => ?_) (fun hc => ⟨fun hg1 => absurd hg1 hc, Ext.refl _⟩)
    obtain rfl := h26_ hg1
    obtain rfl := h31_ hg1
    refine (does_call (args := #[(Iv A_s_.node.kind), (.slice p5 A_s_.node.nums.length q6)]) cal44 (evs rfl) (c_impl_numbersOk A_s_.node.kind (.slice p5 A_s_.node.nums.length q6) A_s_.node.nums _ (Sl.ext (Sl.ext hs7 RF.mono (Ext.gr X38 E42)) RF.mono hu))).mono ?_; rintro v u' ⟨hx, hv⟩
    exact ⟨fun _ => hv.trans (by simp only [hβ1]), hx⟩
  refine RW_d _ rfl (fun v => by dsimp only [List.set]; try rfl) (fun u hu hF => ?_) (fun v59 => ?_)
  · have h32_ : (!(rlOk A_s_.node.kind)) = false → v58 = (Bo β1) := hF.1
    have h21_ : v47 = (Bo (!(rlOk A_s_.node.kind))) := hF.2.1
    clear hF
    obtain rfl := h21_
    refine doesG_g (b := (!(rlOk A_s_.node.kind))) rfl (yld rfl rfl) (fun hg1 => ?_) (fun hc => ⟨fun hg1 => absurd hg1 hc, Ext.refl _⟩)
    obtain rfl := h32_ hg1
    refine (does_not (ev rfl)).mono ?_; rintro _ _ ⟨rfl, rfl⟩
    exact ⟨fun _ => rfl, Ext.refl _⟩
  refine RW_d _ rfl (fun v => by dsimp only [List.set]; try rfl) (fun u hu hF => ?_) (fun v60 => ?_)
  · have h21_ : v47 = (Bo (!(rlOk A_s_.node.kind))) := hF.1
    have h33_ : (!(rlOk A_s_.node.kind)) = false → v59 = (Bo (!β1)) := hF.2.1
    clear hF
    refine doesG_un rfl ?_
    skip
    obtain rfl := h21_
    refine (does_pick (b := (!(rlOk A_s_.node.kind))) (ev rfl) (ev rfl) (ev rfl)).mono ?_; rintro _ _ ⟨rfl, rfl⟩; refine ⟨?_, Ext.refl _⟩; rw [hβ2]; skip
    cases hbb : (!(rlOk A_s_.node.kind)) <;> simp [hbb] at h33_ ⊢
    all_goals (first | rfl | (subst h33_; rfl) | simp_all)
  refine RW_d _ rfl (fun v => by dsimp only [List.set]; try rfl) (fun u hu hF => ?_) (fun v61 => ?_)
  · have h34_ : v60 = (Bo β2) := hF.1
    clear hF
    refine doesG_un rfl ?_
    obtain rfl := h34_
    refine (does_move (u := (Bo β2)) (ev rfl)).mono ?_; rintro _ _ ⟨rfl, rfl⟩
    exact ⟨rfl, Ext.refl _⟩
  refine RW_d _ rfl (fun v => by dsimp only [List.set]; try rfl) (fun u hu hF => ?_) (fun v62 => ?_)
  · have h35_ : v61 = (Bo β2) := hF.1
    clear hF
    obtain rfl := h35_
    refine doesG_g (b := β2) rfl (yld rfl rfl) (fun hg1 => ?_) (fun hc => ⟨fun hg1 => absurd hg1 hc, Ext.refl _⟩)
    refine (does_move (u := (Pt s__b s__o)) (ev rfl)).mono ?_; rintro _ _ ⟨rfl, rfl⟩
    exact ⟨fun _ => rfl, Ext.refl _⟩
  refine RW_d _ rfl (fun v => by dsimp only [List.set]; try rfl) (fun u hu hF => ?_) (fun v63 => ?_)
  · have h36_ : β2 = false → v62 = (Pt s__b s__o) := hF.1
    have h35_ : v61 = (Bo β2) := hF.2.1
    clear hF
    obtain rfl := h35_
    refine doesG_g (b := β2) rfl (yld rfl rfl) (fun hg1 => ?_) (fun hc => ⟨fun hg1 => absurd hg1 hc, Ext.refl _⟩)
    obtain rfl := h36_ hg1
    refine (does_nilCheck (ev rfl)).mono ?_; rintro _ _ ⟨rfl, rfl⟩
    exact ⟨fun _ => rfl, Ext.refl _⟩
  refine RW_d _ rfl (fun v => by dsimp only [List.set]; try rfl) (fun u hu hF => ?_) (fun v64 => ?_)
  · have h37_ : β2 = false → v63 = (Pt s__b s__o) := hF.1
    have h35_ : v61 = (Bo β2) := hF.2.1
    clear hF
    obtain rfl := h35_
    refine doesG_g (b := β2) rfl (yld rfl rfl) (fun hg1 => ?_) (fun hc => ⟨fun hg1 => absurd hg1 hc, Ext.refl _⟩)
    obtain rfl := h37_ hg1
    refine (does_fieldAddr (ev rfl) fa100_4).mono ?_; rintro _ _ ⟨rfl, rfl⟩
    exact ⟨fun _ => rfl, Ext.refl _⟩
  refine RW_d _ rfl (fun v => by dsimp only [List.set]; try rfl) (fun u hu hF => ?_) (fun v65 => ?_)
  · have h38_ : β2 = false → v64 = (Pt s__b (s__o + 4)) := hF.1
    have h35_ : v61 = (Bo β2) := hF.2.1
    clear hF
    obtain rfl := h35_
    refine doesG_g (b := β2) rfl (yld rfl rfl) (fun hg1 => ?_) (fun hc => ⟨fun hg1 => absurd hg1 hc, Ext.refl _⟩)
    obtain rfl := h38_ hg1
    refine (does_fieldAddr (ev rfl) fa27_1).mono ?_; rintro _ _ ⟨rfl, rfl⟩
    exact ⟨fun _ => rfl, Ext.refl _⟩
  refine RW_d _ rfl (fun v => by dsimp only [List.set]; try rfl) (fun u hu hF => ?_) (fun v66 => ?_)
  · have h39_ : β2 = false → v65 = (Pt s__b (s__o + 5)) := hF.1
    have h35_ : v61 = (Bo β2) := hF.2.1
    clear hF
    obtain rfl := h35_
    refine doesG_g (b := β2) rfl (yld rfl rfl) (fun hg1 => ?_) (fun hc => ⟨fun hg1 => absurd hg1 hc, Ext.refl _⟩)
    obtain rfl := h39_ hg1
    refine (does_load (u := (Iv A_s_.node.a)) (ev rfl) Try.isAgg2 (Cells.at ((hc_s_.ext (Ext.gr X38 E42)).ext hu) 5 rfl)).mono ?_; rintro _ _ ⟨rfl, rfl⟩
    exact ⟨fun _ => rfl, Ext.refl _⟩
  refine RW_d _ rfl (fun v => by dsimp only [List.set]; try rfl) (fun u hu hF => ?_) (fun v67 => ?_)
  · have h40_ : β2 = false → v66 = (Iv A_s_.node.a) := hF.1
    have h35_ : v61 = (Bo β2) := hF.2.1
    clear hF
    obtain rfl := h35_
    refine doesG_g (b := β2) rfl (yld rfl rfl) (fun hg1 => ?_) (fun hc => ⟨fun hg1 => absurd hg1 hc, Ext.refl _⟩)
    obtain rfl := h40_ hg1
    refine (does_icmp (p := A_s_.node.a) (q := 0) (.inr (.inl rfl)) (ev rfl) (ev rfl)).mono ?_; rintro _ _ ⟨rfl, rfl⟩
    exact ⟨fun _ => rfl, Ext.refl _⟩
  refine RW_d _ rfl (fun v => by dsimp only [List.set]; try rfl) (fun u hu hF => ?_) (fun v68 => ?_)
  · have h35_ : v61 = (Bo β2) := hF.1
    have h41_ : β2 = false → v67 = (Bo (icmp .neq A_s_.node.a 0)) := hF.2.1
    clear hF
    refine doesG_un rfl ?_
    skip
    obtain rfl := h35_
    refine (does_pick (b := β2) (ev rfl) (ev rfl) (ev rfl)).mono ?_; rintro _ _ ⟨rfl, rfl⟩; refine ⟨?_, Ext.refl _⟩; rw [hβ3]; skip
    cases hbb : β2 <;> simp [hbb] at h41_ ⊢
    all_goals (first | rfl | (subst h41_; rfl) | simp_all)
  refine RW_d _ rfl (fun v => by dsimp only [List.set]; try rfl) (fun u hu hF => ?_) (fun v69 => ?_)
  · have h42_ : v68 = (Bo β3) := hF.1
    clear hF
    refine doesG_un rfl ?_
    obtain rfl := h42_
    refine (does_move (u := (Bo β3)) (ev rfl)).mono ?_; rintro _ _ ⟨rfl, rfl⟩
    exact ⟨rfl, Ext.refl _⟩
  refine RW_d _ rfl (fun v => by dsimp only [List.set]; try rfl) (fun u hu hF => ?_) (fun v70 => ?_)
  · have h43_ : v69 = (Bo β3) := hF.1
    clear hF
    obtain rfl := h43_
    refine doesG_g (b := β3) rfl (yld rfl rfl) (fun hg1 => ?_) (fun hc => ⟨fun hg1 => absurd hg1 hc, Ext.refl _⟩)
    refine (does_move (u := (Pt s__b s__o)) (ev rfl)).mono ?_; rintro _ _ ⟨rfl, rfl⟩
    exact ⟨fun _ => rfl, Ext.refl _⟩
  refine RW_d _ rfl (fun v => by dsimp only [List.set]; try rfl) (fun u hu hF => ?_) (fun v71 => ?_)
  · have h44_ : β3 = false → v70 = (Pt s__b s__o) := hF.1
    have h43_ : v69 = (Bo β3) := hF.2.1
    clear hF
    obtain rfl := h43_
    refine doesG_g (b := β3) rfl (yld rfl rfl) (fun hg1 => ?_) (fun hc => ⟨fun hg1 => absurd hg1 hc, Ext.refl _⟩)
    obtain rfl := h44_ hg1
    refine (does_nilCheck (ev rfl)).mono ?_; rintro _ _ ⟨rfl, rfl⟩
    exact ⟨fun _ => rfl, Ext.refl _⟩
  refine RW_d _ rfl (fun v => by dsimp only [List.set]; try rfl) (fun u hu hF => ?_) (fun v72 => ?_)
  · have h45_ : β3 = false → v71 = (Pt s__b s__o) := hF.1
    have h43_ : v69 = (Bo β3) := hF.2.1
    clear hF
    obtain rfl := h43_
    refine doesG_g (b := β3) rfl (yld rfl rfl) (fun hg1 => ?_) (fun hc => ⟨fun hg1 => absurd hg1 hc, Ext.refl _⟩)
    obtain rfl := h45_ hg1
    refine (does_fieldAddr (ev rfl) fa100_4).mono ?_; rintro _ _ ⟨rfl, rfl⟩
    exact ⟨fun _ => rfl, Ext.refl _⟩
  refine RW_d _ rfl (fun v => by dsimp only [List.set]; try rfl) (fun u hu hF => ?_) (fun v73 => ?_)
  · have h46_ : β3 = false → v72 = (Pt s__b (s__o + 4)) := hF.1
    have h43_ : v69 = (Bo β3) := hF.2.1
    clear hF
    obtain rfl := h43_
    refine doesG_g (b := β3) rfl (yld rfl rfl) (fun hg1 => ?_) (fun hc => ⟨fun hg1 => absurd hg1 hc, Ext.refl _⟩)
    obtain rfl := h46_ hg1
    refine (does_fieldAddr (ev rfl) fa27_2).mono ?_; rintro _ _ ⟨rfl, rfl⟩
    exact ⟨fun _ => rfl, Ext.refl _⟩
  refine RW_d _ rfl (fun v => by dsimp only [List.set]; try rfl) (fun u hu hF => ?_) (fun v74 => ?_)
  · have h47_ : β3 = false → v73 = (Pt s__b (s__o + 6)) := hF.1
    have h43_ : v69 = (Bo β3) := hF.2.1
    clear hF
    obtain rfl := h43_
    refine doesG_g (b := β3) rfl (yld rfl rfl) (fun hg1 => ?_) (fun hc => ⟨fun hg1 => absurd hg1 hc, Ext.refl _⟩)
    obtain rfl := h47_ hg1
    refine (does_load (u := (Iv A_s_.node.b)) (ev rfl) Try.isAgg2 (Cells.at ((hc_s_.ext (Ext.gr X38 E42)).ext hu) 6 rfl)).mono ?_; rintro _ _ ⟨rfl, rfl⟩
    exact ⟨fun _ => rfl, Ext.refl _⟩
  refine RW_d _ rfl (fun v => by dsimp only [List.set]; try rfl) (fun u hu hF => ?_) (fun v75 => ?_)
  · have h48_ : β3 = false → v74 = (Iv A_s_.node.b) := hF.1
    have h43_ : v69 = (Bo β3) := hF.2.1
    clear hF
    obtain rfl := h43_
    refine doesG_g (b := β3) rfl (yld rfl rfl) (fun hg1 => ?_) (fun hc => ⟨fun hg1 => absurd hg1 hc, Ext.refl _⟩)
    obtain rfl := h48_ hg1
    refine (does_icmp (p := A_s_.node.b) (q := 0) (.inr (.inl rfl)) (ev rfl) (ev rfl)).mono ?_; rintro _ _ ⟨rfl, rfl⟩
    exact ⟨fun _ => rfl, Ext.refl _⟩
  refine RW_d _ rfl (fun v => by dsimp only [List.set]; try rfl) (fun u hu hF => ?_) (fun v76 => ?_)
  · have h49_ : β3 = false → v75 = (Bo (icmp .neq A_s_.node.b 0)) := hF.1
    have h43_ : v69 = (Bo β3) := hF.2.1
    clear hF
    obtain rfl := h43_
    refine doesG_g (b := β3) rfl (yld rfl rfl) (fun hg1 => ?_) (fun hc => ⟨⟨fun hg1 => absurd hg1 hc, fun _ => rfl⟩, Ext.refl _⟩)
    obtain rfl := h49_ hg1
    refine (does_move (u := (Bo (icmp .neq A_s_.node.b 0))) (ev rfl)).mono ?_; rintro _ _ ⟨rfl, rfl⟩
    exact ⟨⟨fun _ => rfl, fun hn => absurd hg1 hn⟩, Ext.refl _⟩
  refine RW_d _ rfl (fun v => by dsimp only [List.set]; try rfl) (fun u hu hF => ?_) (fun v77 => ?_)
  · have h50_ : (β3 = false → v76 = (Bo (icmp .neq A_s_.node.b 0))) ∧ (¬ (β3 = false) → v76 = undef) := hF.1; have h50u := h50_.2; replace h50_ := h50_.1
    clear hF
    refine doesG_gg (b := (icmp .neq A_s_.node.b 0)) (c := β3 = false) rfl (fun hc => ?_) (fun hc => ?_) (fun hc hg2 => ?_) (fun hc => ⟨fun hg1 hg2 => absurd ⟨hg1, hg2⟩ hc, Ext.refl _⟩)
    · have hg1 := hc; obtain rfl := h50_ hg1; exact yld rfl rfl
    · obtain rfl := h50u hc; exact yldn rfl rfl
    have hg1 := hc
    obtain rfl := h50_ hg1
    refine (does_fieldAddr (ev rfl) fa140_2).mono ?_; rintro _ _ ⟨rfl, rfl⟩
    exact ⟨fun _ _ => rfl, Ext.refl _⟩
  refine RW_d _ rfl (fun v => by dsimp only [List.set]; try rfl) (fun u hu hF => ?_) (fun v78 => ?_)
  · have h51_ : β3 = false → (icmp .neq A_s_.node.b 0) = true → v77 = (Pt b25 2) := hF.1
    have h50_ : (β3 = false → v76 = (Bo (icmp .neq A_s_.node.b 0))) ∧ (¬ (β3 = false) → v76 = undef) := hF.2.1; have h50u := h50_.2; replace h50_ := h50_.1
    clear hF
    refine doesG_gg (b := (icmp .neq A_s_.node.b 0)) (c := β3 = false) rfl (fun hc => ?_) (fun hc => ?_) (fun hc hg2 => ?_) (fun hc => ⟨fun hg1 hg2 => absurd ⟨hg1, hg2⟩ hc, Ext.refl _⟩)
    · have hg1 := hc; obtain rfl := h50_ hg1; exact yld rfl rfl
    · obtain rfl := h50u hc; exact yldn rfl rfl
    have hg1 := hc
    obtain rfl := h50_ hg1
    obtain rfl := h51_ hg1 hg2
    refine (does_load (u := (Bo ((ruleP A_s_.node.kind).ax))) (ev rfl) Try.isAgg4 (Cells.at (Blk.cells ((hB36.ext E42).ext hu)) 2 rfl)).mono ?_; rintro _ _ ⟨rfl, rfl⟩
    exact ⟨fun _ _ => (by first | rfl | (show _ = _; simp only [hβ4])), Ext.refl _⟩
  refine RW_d _ rfl (fun v => by dsimp only [List.set]; try rfl) (fun u hu hF => ?_) (fun v79 => ?_)
  · have h52_ : β3 = false → (icmp .neq A_s_.node.b 0) = true → v78 = (Bo β4) := hF.1
    have h50_ : (β3 = false → v76 = (Bo (icmp .neq A_s_.node.b 0))) ∧ (¬ (β3 = false) → v76 = undef) := hF.2.1; have h50u := h50_.2; replace h50_ := h50_.1
    clear hF
    refine doesG_gg (b := (icmp .neq A_s_.node.b 0)) (c := β3 = false) rfl (fun hc => ?_) (fun hc => ?_) (fun hc hg2 => ?_) (fun hc => ⟨⟨fun hg1 hg2 => absurd ⟨hg1, hg2⟩ hc, fun _ => rfl⟩, Ext.refl _⟩)
    · have hg1 := hc; obtain rfl := h50_ hg1; exact yld rfl rfl
    · obtain rfl := h50u hc; exact yldn rfl rfl
    have hg1 := hc
    obtain rfl := h50_ hg1
    obtain rfl := h52_ hg1 hg2
    refine (does_move (u := (Bo β4)) (ev rfl)).mono ?_; rintro _ _ ⟨rfl, rfl⟩
    exact ⟨⟨fun _ _ => rfl, fun hn => absurd ⟨hg1, hg2⟩ hn⟩, Ext.refl _⟩
  refine RW_d _ rfl (fun v => by dsimp only [List.set]; try rfl) (fun u hu hF => ?_) (fun v80 => ?_)
  · have h53_ : (β3 = false → (icmp .neq A_s_.node.b 0) = true → v79 = (Bo β4)) ∧ (¬ (β3 = false ∧ (icmp .neq A_s_.node.b 0) = true) → v79 = undef) := hF.1; have h53u := h53_.2; replace h53_ := h53_.1
    clear hF
    refine doesG_gg (b := β4) (c := β3 = false ∧ (icmp .neq A_s_.node.b 0) = true) rfl (fun hc => ?_) (fun hc => ?_) (fun hc hg3 => ?_) (fun hc => ⟨fun hg1 hg2 hg3 => absurd ⟨⟨hg1, hg2⟩, hg3⟩ hc, Ext.refl _⟩)
    · obtain ⟨hg1, hg2⟩ := hc; obtain rfl := h53_ hg1 hg2; exact yld rfl rfl
    · obtain rfl := h53u hc; exact yldn rfl rfl
    obtain ⟨hg1, hg2⟩ := hc
    obtain rfl := h53_ hg1 hg2
    refine (does_move (u := (Pt s__b s__o)) (ev rfl)).mono ?_; rintro _ _ ⟨rfl, rfl⟩
    exact ⟨fun _ _ _ => rfl, Ext.refl _⟩
  refine RW_d _ rfl (fun v => by dsimp only [List.set]; try rfl) (fun u hu hF => ?_) (fun v81 => ?_)
  · have h54_ : β3 = false → (icmp .neq A_s_.node.b 0) = true → β4 = true → v80 = (Pt s__b s__o) := hF.1
    have h53_ : (β3 = false → (icmp .neq A_s_.node.b 0) = true → v79 = (Bo β4)) ∧ (¬ (β3 = false ∧ (icmp .neq A_s_.node.b 0) = true) → v79 = undef) := hF.2.1; have h53u := h53_.2; replace h53_ := h53_.1
    clear hF
    refine doesG_gg (b := β4) (c := β3 = false ∧ (icmp .neq A_s_.node.b 0) = true) rfl (fun hc => ?_) (fun hc => ?_) (fun hc hg3 => ?_) (fun hc => ⟨fun hg1 hg2 hg3 => absurd ⟨⟨hg1, hg2⟩, hg3⟩ hc, Ext.refl _⟩)
    · obtain ⟨hg1, hg2⟩ := hc; obtain rfl := h53_ hg1 hg2; exact yld rfl rfl
    · obtain rfl := h53u hc; exact yldn rfl rfl
    obtain ⟨hg1, hg2⟩ := hc
    obtain rfl := h53_ hg1 hg2
    obtain rfl := h54_ hg1 hg2 hg3
    refine (does_nilCheck (ev rfl)).mono ?_; rintro _ _ ⟨rfl, rfl⟩
    exact ⟨fun _ _ _ => rfl, Ext.refl _⟩
  refine RW_d _ rfl (fun v => by dsimp only [List.set]; try rfl) (fun u hu hF => ?_) (fun v82 => ?_)
  · have h55_ : β3 = false → (icmp .neq A_s_.node.b 0) = true → β4 = true → v81 = (Pt s__b s__o) := hF.1
    have h53_ : (β3 = false → (icmp .neq A_s_.node.b 0) = true → v79 = (Bo β4)) ∧ (¬ (β3 = false ∧ (icmp .neq A_s_.node.b 0) = true) → v79 = undef) := hF.2.1; have h53u := h53_.2; replace h53_ := h53_.1
    clear hF
    refine doesG_gg (b := β4) (c := β3 = false ∧ (icmp .neq A_s_.node.b 0) = true) rfl (fun hc => ?_) (fun hc => ?_) (fun hc hg3 => ?_) (fun hc => ⟨fun hg1 hg2 hg3 => absurd ⟨⟨hg1, hg2⟩, hg3⟩ hc, Ext.refl _⟩)
    · obtain ⟨hg1, hg2⟩ := hc; obtain rfl := h53_ hg1 hg2; exact yld rfl rfl
    · obtain rfl := h53u hc; exact yldn rfl rfl
    obtain ⟨hg1, hg2⟩ := hc
    obtain rfl := h53_ hg1 hg2
    obtain rfl := h55_ hg1 hg2 hg3
    refine (does_fieldAddr (ev rfl) fa100_4).mono ?_; rintro _ _ ⟨rfl, rfl⟩
    exact ⟨fun _ _ _ => rfl, Ext.refl _⟩
  refine RW_d _ rfl (fun v => by dsimp only [List.set]; try rfl) (fun u hu hF => ?_) (fun v83 => ?_)
  · have h56_ : β3 = false → (icmp .neq A_s_.node.b 0) = true → β4 = true → v82 = (Pt s__b (s__o + 4)) := hF.1
    have h53_ : (β3 = false → (icmp .neq A_s_.node.b 0) = true → v79 = (Bo β4)) ∧ (¬ (β3 = false ∧ (icmp .neq A_s_.node.b 0) = true) → v79 = undef) := hF.2.1; have h53u := h53_.2; replace h53_ := h53_.1
    clear hF
    refine doesG_gg (b := β4) (c := β3 = false ∧ (icmp .neq A_s_.node.b 0) = true) rfl (fun hc => ?_) (fun hc => ?_) (fun hc hg3 => ?_) (fun hc => ⟨fun hg1 hg2 hg3 => absurd ⟨⟨hg1, hg2⟩, hg3⟩ hc, Ext.refl _⟩)
    · obtain ⟨hg1, hg2⟩ := hc; obtain rfl := h53_ hg1 hg2; exact yld rfl rfl
    · obtain rfl := h53u hc; exact yldn rfl rfl
    obtain ⟨hg1, hg2⟩ := hc
    obtain rfl := h53_ hg1 hg2
    obtain rfl := h56_ hg1 hg2 hg3
    refine (does_fieldAddr (ev rfl) fa27_2).mono ?_; rintro _ _ ⟨rfl, rfl⟩
    exact ⟨fun _ _ _ => rfl, Ext.refl _⟩
  refine RW_d _ rfl (fun v => by dsimp only [List.set]; try rfl) (fun u hu hF => ?_) (fun v84 => ?_)
  · have h57_ : β3 = false → (icmp .neq A_s_.node.b 0) = true → β4 = true → v83 = (Pt s__b (s__o + 6)) := hF.1
    have h53_ : (β3 = false → (icmp .neq A_s_.node.b 0) = true → v79 = (Bo β4)) ∧ (¬ (β3 = false ∧ (icmp .neq A_s_.node.b 0) = true) → v79 = undef) := hF.2.1; have h53u := h53_.2; replace h53_ := h53_.1
    clear hF
    refine doesG_gg (b := β4) (c := β3 = false ∧ (icmp .neq A_s_.node.b 0) = true) rfl (fun hc => ?_) (fun hc => ?_) (fun hc hg3 => ?_) (fun hc => ⟨fun hg1 hg2 hg3 => absurd ⟨⟨hg1, hg2⟩, hg3⟩ hc, Ext.refl _⟩)
    · obtain ⟨hg1, hg2⟩ := hc; obtain rfl := h53_ hg1 hg2; exact yld rfl rfl
    · obtain rfl := h53u hc; exact yldn rfl rfl
    obtain ⟨hg1, hg2⟩ := hc
    obtain rfl := h53_ hg1 hg2
    obtain rfl := h57_ hg1 hg2 hg3
    refine (does_load (u := (Iv A_s_.node.b)) (ev rfl) Try.isAgg2 (Cells.at ((hc_s_.ext (Ext.gr X38 E42)).ext hu) 6 rfl)).mono ?_; rintro _ _ ⟨rfl, rfl⟩
    exact ⟨fun _ _ _ => rfl, Ext.refl _⟩
  refine RW_d _ rfl (fun v => by dsimp only [List.set]; try rfl) (fun u hu hF => ?_) (fun v85 => ?_)
  · have h58_ : β3 = false → (icmp .neq A_s_.node.b 0) = true → β4 = true → v84 = (Iv A_s_.node.b) := hF.1
    have h53_ : (β3 = false → (icmp .neq A_s_.node.b 0) = true → v79 = (Bo β4)) ∧ (¬ (β3 = false ∧ (icmp .neq A_s_.node.b 0) = true) → v79 = undef) := hF.2.1; have h53u := h53_.2; replace h53_ := h53_.1
    clear hF
    refine doesG_gg (b := β4) (c := β3 = false ∧ (icmp .neq A_s_.node.b 0) = true) rfl (fun hc => ?_) (fun hc => ?_) (fun hc hg3 => ?_) (fun hc => ⟨fun hg1 hg2 hg3 => absurd ⟨⟨hg1, hg2⟩, hg3⟩ hc, Ext.refl _⟩)
    · obtain ⟨hg1, hg2⟩ := hc; obtain rfl := h53_ hg1 hg2; exact yld rfl rfl
    · obtain rfl := h53u hc; exact yldn rfl rfl
    obtain ⟨hg1, hg2⟩ := hc
    obtain rfl := h53_ hg1 hg2
    obtain rfl := h58_ hg1 hg2 hg3
    refine (does_call (args := #[(Iv A_s_.node.b), (Iv 0), (Iv 2)]) cal55 (evs rfl) (c_impl_in A_s_.node.b 0 2 _)).mono ?_; rintro v u' ⟨hx, hv⟩
    exact ⟨fun _ _ _ => hv, hx⟩
  refine RW_d _ rfl (fun v => by dsimp only [List.set]; try rfl) (fun u hu hF => ?_) (fun v86 => ?_)
  · have h53_ : (β3 = false → (icmp .neq A_s_.node.b 0) = true → v79 = (Bo β4)) ∧ (¬ (β3 = false ∧ (icmp .neq A_s_.node.b 0) = true) → v79 = undef) := hF.1; have h53u := h53_.2; replace h53_ := h53_.1
    have h59_ : β3 = false → (icmp .neq A_s_.node.b 0) = true → β4 = true → v85 = (Bo (inI A_s_.node.b 0 2)) := hF.2.1
    have h50_ : (β3 = false → v76 = (Bo (icmp .neq A_s_.node.b 0))) ∧ (¬ (β3 = false) → v76 = undef) := hF.2.2.1; have h50u := h50_.2; replace h50_ := h50_.1
    clear hF
    refine doesG_gg (b := (icmp .neq A_s_.node.b 0)) (c := β3 = false) rfl (fun hc => ?_) (fun hc => ?_) (fun hc hg2 => ?_) (fun hc => ⟨fun hg1 hg2 => absurd ⟨hg1, hg2⟩ hc, Ext.refl _⟩)
    · have hg1 := hc; obtain rfl := h50_ hg1; exact yld rfl rfl
    · obtain rfl := h50u hc; exact yldn rfl rfl
    have hg1 := hc
    obtain rfl := h50_ hg1
    skip
    obtain rfl := h53_ hg1 hg2
    replace h59_ := h59_ hg1 hg2
    refine (does_pick (b := β4) (ev rfl) (ev rfl) (ev rfl)).mono ?_; rintro _ _ ⟨rfl, rfl⟩; refine ⟨fun _ _ => ?_, Ext.refl _⟩; rw [hβ5]; skip
    cases hbb : β4 <;> simp [hbb] at h59_ ⊢
    all_goals (first | rfl | (subst h59_; rfl) | simp_all)
  refine RW_d _ rfl (fun v => by dsimp only [List.set]; try rfl) (fun u hu hF => ?_) (fun v87 => ?_)
  · have h60_ : β3 = false → (icmp .neq A_s_.node.b 0) = true → v86 = (Bo β5) := hF.1
    have h50_ : (β3 = false → v76 = (Bo (icmp .neq A_s_.node.b 0))) ∧ (¬ (β3 = false) → v76 = undef) := hF.2.1; have h50u := h50_.2; replace h50_ := h50_.1
    clear hF
    refine doesG_gg (b := (icmp .neq A_s_.node.b 0)) (c := β3 = false) rfl (fun hc => ?_) (fun hc => ?_) (fun hc hg2 => ?_) (fun hc => ⟨fun hg1 hg2 => absurd ⟨hg1, hg2⟩ hc, Ext.refl _⟩)
    · have hg1 := hc; obtain rfl := h50_ hg1; exact yld rfl rfl
    · obtain rfl := h50u hc; exact yldn rfl rfl
    have hg1 := hc
    obtain rfl := h50_ hg1
    obtain rfl := h60_ hg1 hg2
    refine (does_not (ev rfl)).mono ?_; rintro _ _ ⟨rfl, rfl⟩
    exact ⟨fun _ _ => rfl, Ext.refl _⟩
  refine RW_d _ rfl (fun v => by dsimp only [List.set]; try rfl) (fun u hu hF => ?_) (fun v88 => ?_)
  · have h50_ : (β3 = false → v76 = (Bo (icmp .neq A_s_.node.b 0))) ∧ (¬ (β3 = false) → v76 = undef) := hF.1; have h50u := h50_.2; replace h50_ := h50_.1
    have h61_ : β3 = false → (icmp .neq A_s_.node.b 0) = true → v87 = (Bo (!β5)) := hF.2.1
    have h43_ : v69 = (Bo β3) := hF.2.2.1
    clear hF
    obtain rfl := h43_
    refine doesG_g (b := β3) rfl (yld rfl rfl) (fun hg1 => ?_) (fun hc => ⟨fun hg1 => absurd hg1 hc, Ext.refl _⟩)
    skip
    obtain rfl := h50_ hg1
    replace h61_ := h61_ hg1
    refine (does_pick (b := (icmp .neq A_s_.node.b 0)) (ev rfl) (ev rfl) (ev rfl)).mono ?_; rintro _ _ ⟨rfl, rfl⟩; refine ⟨fun _ => ?_, Ext.refl _⟩; rw [hβ6]; skip
    cases hbb : (icmp .neq A_s_.node.b 0) <;> simp [hbb] at h61_ ⊢
    all_goals (first | rfl | (subst h61_; rfl) | simp_all)
  refine RW_d _ rfl (fun v => by dsimp only [List.set]; try rfl) (fun u hu hF => ?_) (fun v89 => ?_)
  · have h43_ : v69 = (Bo β3) := hF.1
    have h62_ : β3 = false → v88 = (Bo β6) := hF.2.1
    clear hF
    refine doesG_un rfl ?_
    skip
    obtain rfl := h43_
    refine (does_pick (b := β3) (ev rfl) (ev rfl) (ev rfl)).mono ?_; rintro _ _ ⟨rfl, rfl⟩; refine ⟨?_, Ext.refl _⟩; skip
    cases hbb : β3 <;> simp [hbb] at h62_ ⊢
    all_goals (first | rfl | (subst h62_; rfl) | simp_all)
  refine RW_fin ?_; intro w90 E91 hP92
  obtain ⟨⟨⟨⟨⟨⟨⟨⟨⟨⟨⟨⟨⟨⟨⟨⟨⟨⟨⟨⟨⟨⟨⟨⟨⟨⟨⟨⟨⟨⟨⟨⟨⟨⟨⟨⟨⟨⟨⟨⟨⟨⟨⟨⟨⟨-, -⟩, -⟩, -⟩, -⟩, -⟩, -⟩, -⟩, -⟩, -⟩, -⟩, -⟩, -⟩, -⟩, -⟩, -⟩, -⟩, -⟩, -⟩, -⟩, -⟩, -⟩, -⟩, -⟩, -⟩, -⟩, -⟩, -⟩, -⟩, -⟩, -⟩, -⟩, -⟩, -⟩, -⟩, -⟩, -⟩, -⟩, -⟩, -⟩, -⟩, -⟩, -⟩, -⟩, -⟩, q93⟩ := hP92
  have X94 := Ext.gr X44 E91
  have q93 : v89 = (Bo (β3 || β6)) := q93
  obtain rfl := q93
  show wpList _ _ _ _ (fr [(Pt s__b s__o), (Pt p_b p_o), Ud, (Pt b12 0), (Bo false), (Pt b25 0), (Bo (rlOk A_s_.node.kind)), Ud, Ud, Ud, (.tuple #[(.agg #[(Iv ((ruleP A_s_.node.kind).num)), (Iv ((ruleP A_s_.node.kind).ch)), (Bo ((ruleP A_s_.node.kind).ax)), (Iv ((ruleP A_s_.node.kind).sg))]), (Bo (rlOk A_s_.node.kind))]), (Pt s__b s__o), (Pt s__b s__o), (Pt s__b (s__o + 4)), (Pt s__b (s__o + 4)), (Iv A_s_.node.kind), (.tuple #[(.agg #[(Iv ((ruleP A_s_.node.kind).num)), (Iv ((ruleP A_s_.node.kind).ch)), (Bo ((ruleP A_s_.node.kind).ax)), (Iv ((ruleP A_s_.node.kind).sg))]), (Bo (rlOk A_s_.node.kind))]), (.agg #[(Iv ((ruleP A_s_.node.kind).num)), (Iv ((ruleP A_s_.node.kind).ch)), (Bo ((ruleP A_s_.node.kind).ax)), (Iv ((ruleP A_s_.node.kind).sg))]), (Bo (rlOk A_s_.node.kind)), v45, v46, v47, v48, v49, v50, v51, v52, v53, v54, v55, v56, v57, v58, v59, v60, v61, v62, v63, v64, v65, v66, v67, v68, v69, v70, v71, v72, v73, v74, v75, v76, v77, v78, v79, v80, v81, v82, v83, v84, v85, v86, v87, v88, (Bo (β3 || β6)), Ud, Ud, Ud, Ud, Ud, Ud, Ud, Ud, Ud, Ud, Ud, Ud, Ud, Ud, Ud, Ud, Ud, Ud, Ud, Ud, Ud, Ud, Ud, Ud, Ud, Ud, Ud, Ud, Ud, Ud, Ud, Ud, Ud, Ud, Ud, Ud, Ud, Ud, Ud, Ud, Ud, Ud, Ud, Ud, Ud, Ud, Ud, Ud, Ud, Ud, Ud, Ud, Ud, Ud, Ud, Ud, Ud, Ud, Ud, Ud, Ud, Ud, Ud, Ud, Ud, Ud, Ud, Ud, Ud, Ud, Ud, Ud, Ud, Ud, Ud, Ud, Ud, Ud, Ud, Ud, Ud, Ud, Ud, Ud, Ud, Ud, Ud, Ud, Ud, Ud, Ud, Ud, Ud, Ud, Ud, Ud, Ud, Ud, Ud, Ud, Ud, Ud, Ud, Ud, Ud, Ud, Ud, Ud, Ud, Ud, Ud, Ud, Ud, Ud, Ud, Ud, Ud, Ud, Ud, Ud, Ud, Ud, Ud, Ud, Ud, Ud, Ud, Ud, Ud, Ud, Ud]) _
  refine wpList_nil (hK40 _ _ ?_)
  refine wp_cond_split (t := β3 || β6) (ev rfl) (fun c95 => ?_) (fun c95 => ?_)
  · have c95' := c95
    (try simp only [hβ1, hβ2, hβ3, hβ4, hβ5, hβ6] at c95')
    (try simp only [icmp, Bool.and_eq_true, Bool.or_eq_true, Bool.and_eq_false_iff, Bool.or_eq_false_iff, Bool.not_eq_true', Bool.not_eq_false', decide_eq_true_eq, decide_eq_false_iff_not, beq_iff_eq, bne_iff_ne, beq_eq_false_iff_ne, bne_eq_false_iff_eq] at c95')
    have hno := nodeI_f (n := A_s_.node) (by assumption)
    refine wp_seq_k fun K96 hK96 => ?_
    refine wp_region_lit ?_
    refine q_is rfl rfl (does_assign (u := (Bo false)) (ev rfl)) (by dsimp only [List.set]; try rfl) ?_
    refine wpList_nil (hK96 _ _ ?_)
    refine wp_ret ?_
    dsimp only [Exit.then, Exit.inBlock]
    refine ret_val (v := (Bo false)) (res_T rfl (slot rfl)) X94 ?_
    try simp only [hβ1, hβ2, hβ3, hβ4, hβ5, hβ6] at c95
    have x97 : (stepOk A_p A_s_) = false := by first | exact stepOk_n hno | exact stepOk_x (by assumption) (by assumption) (by assumption) | (rw [stepI_0 hno.1 (by assumption)]; first | done | (simp only [hβ1, hβ2, hβ3, hβ4, hβ5, hβ6, c95]; done)) | (rw [stepI_1 hno.1 hno.2 (by assumption)]; first | done | (simp only [hβ1, hβ2, hβ3, hβ4, hβ5, hβ6, c95]; done)) | (rw [stepI_2 hno.1 hno.2 (by assumption)]; first | done | (simp only [hβ1, hβ2, hβ3, hβ4, hβ5, hβ6, c95]; done))
    exact (by first | rfl | rw [x97])
  have c95' := c95
  (try simp only [hβ1, hβ2, hβ3, hβ4, hβ5, hβ6] at c95')
  (try simp only [icmp, Bool.and_eq_true, Bool.or_eq_true, Bool.and_eq_false_iff, Bool.or_eq_false_iff, Bool.not_eq_true', Bool.not_eq_false', decide_eq_true_eq, decide_eq_false_iff_not, beq_iff_eq, bne_iff_ne, beq_eq_false_iff_ne, bne_eq_false_iff_eq] at c95')
  have hno := nodeI_t (n := A_s_.node) (by assumption)
  refine wp_skip (hK39 _ _ ?_)
  refine wp_seq_k fun K98 hK98 => ?_
  refine wp_region_lit ?_
  refine q_is rfl rfl (does_makeFunc (u := (.func (.func 99) #[] #[(Pt b12 0)])) (evs rfl) (evs rfl) rfl) (by dsimp only [List.set]; try rfl) ?_
  refine q_is rfl rfl (does_assign (u := (.func (.func 99) #[] #[(Pt b12 0)])) (ev rfl)) (by dsimp only [List.set]; try rfl) ?_
  refine wpList_nil (hK98 _ _ ?_)
  refine wp_seq_k fun K99 hK99 => ?_
  refine wp_region_lit ?_
  refine q_is rfl rfl (does_makeFunc (u := (.func (.func 100) #[] #[(Pt b12 0)])) (evs rfl) (evs rfl) rfl) (by dsimp only [List.set]; try rfl) ?_
  refine q_is rfl rfl (does_assign (u := (.func (.func 100) #[] #[(Pt b12 0)])) (ev rfl)) (by dsimp only [List.set]; try rfl) ?_
  refine wpList_nil (hK99 _ _ ?_)
  refine wp_seq_k fun K100 hK100 => ?_
  refine wp_seq_k fun K101 hK101 => ?_
  refine wp_region_lit ?_
  refine q_is rfl rfl (does_move (u := (Pt s__b s__o)) (ev rfl)) (by dsimp only [List.set]; try rfl) ?_
  refine q_is rfl rfl (does_nilCheck (ev rfl)) (by dsimp only [List.set]; try rfl) ?_
  refine q_is rfl rfl (does_fieldAddr (ev rfl) fa100_0) (by dsimp only [List.set]; try rfl) ?_
  refine q_is rfl rfl (does_load (u := (Iv A_s_.kind)) (ev rfl) Try.isAgg2 (Cells.at (hc_s_.ext X94) 0 rfl)) (by dsimp only [List.set]; try rfl) ?_
  refine wpList_nil (hK101 _ _ ?_)
  refine wp_block ?_
  refine wp_seq_k fun K102 hK102 => ?_
  refine wp_region_lit ?_
  refine q_is rfl rfl (does_icmp (p := A_s_.kind) (q := 0) (.inl rfl) (ev rfl) (ev rfl)) (by dsimp only [List.set]; try rfl) ?_
  refine q_is rfl rfl (does_assign (u := (Bo (icmp .eql A_s_.kind 0))) (ev rfl)) (by dsimp only [List.set]; try rfl) ?_
  refine wpList_nil (hK102 _ _ ?_)
  refine wp_cond_split (t := icmp .eql A_s_.kind 0) (ev rfl) (fun c103 => ?_) (fun c103 => ?_)
  · have c103' := c103
    (try simp only [hβ1, hβ2, hβ3, hβ4, hβ5, hβ6] at c103')
    (try simp only [icmp, Bool.and_eq_true, Bool.or_eq_true, Bool.and_eq_false_iff, Bool.or_eq_false_iff, Bool.not_eq_true', Bool.not_eq_false', decide_eq_true_eq, decide_eq_false_iff_not, beq_iff_eq, bne_iff_ne, beq_eq_false_iff_ne, bne_eq_false_iff_eq] at c103')
    refine wp_seq_k fun K104 hK104 => ?_
    obtain ⟨β7, hβ7⟩ : ∃ b : Bool, b = ((ptsK A_s_.node.kind) && (icmp .neq A_s_.to 0)) := ⟨_, rfl⟩
    obtain ⟨β8, hβ8⟩ : ∃ b : Bool, b = (inI A_s_.to 0 (IntKind.i64.wrap (A_p.points - 1))) := ⟨_, rfl⟩
    obtain ⟨β9, hβ9⟩ : ∃ b : Bool, b = (inI A_s_.a 0 (IntKind.i64.wrap (A_p.points - 1))) := ⟨_, rfl⟩
    obtain ⟨β10, hβ10⟩ : ∃ b : Bool, b = (((β7 && β8) && β9) && (icmp .eql A_s_.b 0)) := ⟨_, rfl⟩
    refine region_text (
      [Fact.pure [] (fun v => v = (Pt s__b s__o)),
    Fact.pure [72] (fun v => v = (Pt s__b s__o)),
    Fact.pure [73] (fun v => v = (Pt s__b (s__o + 4))),
    Fact.pure [74] (fun v => v = (Pt s__b (s__o + 4))),
    Fact.pure [75] (fun v => v = (Iv A_s_.node.kind)),
    Fact.pure [76] (fun v => v = (Bo (ptsK A_s_.node.kind))),
    Fact.pure [77] (fun v => v = (Bo (ptsK A_s_.node.kind))),
    Fact.pure [78] (fun v => (ptsK A_s_.node.kind) = true → v = (Pt s__b s__o)),
    Fact.pure [79, 78] (fun v => (ptsK A_s_.node.kind) = true → v = (Pt s__b s__o)),
    Fact.pure [80, 78] (fun v => (ptsK A_s_.node.kind) = true → v = (Pt s__b (s__o + 1))),
    Fact.pure [81, 78] (fun v => (ptsK A_s_.node.kind) = true → v = (Iv A_s_.to)),
    Fact.pure [82, 78] (fun v => (ptsK A_s_.node.kind) = true → v = (Bo (icmp .neq A_s_.to 0))),
    Fact.pure [78, 83] (fun v => v = (Bo β7)),
    Fact.pure [84] (fun v => v = (Bo β7)),
    Fact.pure [85] (fun v => β7 = true → v = (.func (.func 99) #[] #[(Pt b12 0)])),
    Fact.pure [85] (fun v => β7 = true → v = (Pt s__b s__o)),
    Fact.pure [87, 85] (fun v => β7 = true → v = (Pt s__b s__o)),
    Fact.pure [88, 85] (fun v => β7 = true → v = (Pt s__b (s__o + 1))),
    Fact.pure [89, 85] (fun v => β7 = true → v = (Iv A_s_.to)),
    Fact.pure [90, 86, 85] (fun v => β7 = true → v = (Bo β8)),
    Fact.pure [85, 91] (fun v => v = (Bo (β7 && β8))),
    Fact.pure [92] (fun v => v = (Bo (β7 && β8))),
    Fact.pure [93] (fun v => (β7 && β8) = true → v = (.func (.func 99) #[] #[(Pt b12 0)])),
    Fact.pure [93] (fun v => (β7 && β8) = true → v = (Pt s__b s__o)),
    Fact.pure [95, 93] (fun v => (β7 && β8) = true → v = (Pt s__b s__o)),
    Fact.pure [96, 93] (fun v => (β7 && β8) = true → v = (Pt s__b (s__o + 2))),
    Fact.pure [97, 93] (fun v => (β7 && β8) = true → v = (Iv A_s_.a)),
    Fact.pure [98, 94, 93] (fun v => (β7 && β8) = true → v = (Bo β9)),
    Fact.pure [93, 99] (fun v => v = (Bo ((β7 && β8) && β9))),
    Fact.pure [100] (fun v => v = (Bo ((β7 && β8) && β9))),
    Fact.pure [101] (fun v => ((β7 && β8) && β9) = true → v = (Pt s__b s__o)),
    Fact.pure [102, 101] (fun v => ((β7 && β8) && β9) = true → v = (Pt s__b s__o)),
    Fact.pure [103, 101] (fun v => ((β7 && β8) && β9) = true → v = (Pt s__b (s__o + 3))),
    Fact.pure [104, 101] (fun v => ((β7 && β8) && β9) = true → v = (Iv A_s_.b)),
    Fact.pure [105, 101] (fun v => ((β7 && β8) && β9) = true → v = (Bo (icmp .eql A_s_.b 0))),
    Fact.pure [101, 106] (fun v => v = (Bo β10))]) (by simp [Fact.pure, Fact.mem]) ?_
    refine RW_d _ rfl (fun v => by dsimp only [List.set]; try rfl) (fun u hu hF => ?_) (fun v105 => ?_)
    · clear hF
      refine doesG_un rfl ?_
      refine (does_move (u := (Pt s__b s__o)) (ev rfl)).mono ?_; rintro _ _ ⟨rfl, rfl⟩
      exact ⟨rfl, Ext.refl _⟩
    refine RW_d _ rfl (fun v => by dsimp only [List.set]; try rfl) (fun u hu hF => ?_) (fun v106 => ?_)
    · have h72_ : v105 = (Pt s__b s__o) := hF.1
      clear hF
      refine doesG_un rfl ?_
      obtain rfl := h72_
      refine (does_nilCheck (ev rfl)).mono ?_; rintro _ _ ⟨rfl, rfl⟩
      exact ⟨rfl, Ext.refl _⟩
    refine RW_d _ rfl (fun v => by dsimp only [List.set]; try rfl) (fun u hu hF => ?_) (fun v107 => ?_)
    · have h73_ : v106 = (Pt s__b s__o) := hF.1
      clear hF
      refine doesG_un rfl ?_
      obtain rfl := h73_
      refine (does_fieldAddr (ev rfl) fa100_4).mono ?_; rintro _ _ ⟨rfl, rfl⟩
      exact ⟨rfl, Ext.refl _⟩
    refine RW_d _ rfl (fun v => by dsimp only [List.set]; try rfl) (fun u hu hF => ?_) (fun v108 => ?_)
    · have h74_ : v107 = (Pt s__b (s__o + 4)) := hF.1
      clear hF
      refine doesG_un rfl ?_
      obtain rfl := h74_
      refine (does_fieldAddr (ev rfl) fa27_0).mono ?_; rintro _ _ ⟨rfl, rfl⟩
      exact ⟨rfl, Ext.refl _⟩
    refine RW_d _ rfl (fun v => by dsimp only [List.set]; try rfl) (fun u hu hF => ?_) (fun v109 => ?_)
    · have h75_ : v108 = (Pt s__b (s__o + 4)) := hF.1
      clear hF
      refine doesG_un rfl ?_
      obtain rfl := h75_
      refine (does_load (u := (Iv A_s_.node.kind)) (ev rfl) Try.isAgg2 (Cells.at ((hc_s_.ext X94).ext hu) 4 rfl)).mono ?_; rintro _ _ ⟨rfl, rfl⟩
      exact ⟨rfl, Ext.refl _⟩
    refine RW_d _ rfl (fun v => by dsimp only [List.set]; try rfl) (fun u hu hF => ?_) (fun v110 => ?_)
    · have h76_ : v109 = (Iv A_s_.node.kind) := hF.1
      clear hF
      refine doesG_un rfl ?_
      obtain rfl := h76_
      refine (does_call (args := #[(Iv A_s_.node.kind)]) cal101 (evs rfl) (c_impl_points A_s_.node.kind _)).mono ?_; rintro v u' ⟨hx, hv⟩
      exact ⟨hv, hx⟩
    refine RW_d _ rfl (fun v => by dsimp only [List.set]; try rfl) (fun u hu hF => ?_) (fun v111 => ?_)
    · have h77_ : v110 = (Bo (ptsK A_s_.node.kind)) := hF.1
      clear hF
      refine doesG_un rfl ?_
      obtain rfl := h77_
      refine (does_move (u := (Bo (ptsK A_s_.node.kind))) (ev rfl)).mono ?_; rintro _ _ ⟨rfl, rfl⟩
      exact ⟨rfl, Ext.refl _⟩
    refine RW_d _ rfl (fun v => by dsimp only [List.set]; try rfl) (fun u hu hF => ?_) (fun v112 => ?_)
    · have h78_ : v111 = (Bo (ptsK A_s_.node.kind)) := hF.1
      clear hF
      obtain rfl := h78_
      refine doesG_g (b := (ptsK A_s_.node.kind)) rfl (yld rfl rfl) (fun hg1 => ?_) (fun hc => ⟨fun hg1 => absurd hg1 hc, Ext.refl _⟩)
      refine (does_move (u := (Pt s__b s__o)) (ev rfl)).mono ?_; rintro _ _ ⟨rfl, rfl⟩
      exact ⟨fun _ => rfl, Ext.refl _⟩
    refine RW_d _ rfl (fun v => by dsimp only [List.set]; try rfl) (fun u hu hF => ?_) (fun v113 => ?_)
    · have h79_ : (ptsK A_s_.node.kind) = true → v112 = (Pt s__b s__o) := hF.1
      have h78_ : v111 = (Bo (ptsK A_s_.node.kind)) := hF.2.1
      clear hF
      obtain rfl := h78_
      refine doesG_g (b := (ptsK A_s_.node.kind)) rfl (yld rfl rfl) (fun hg1 => ?_) (fun hc => ⟨fun hg1 => absurd hg1 hc, Ext.refl _⟩)
      obtain rfl := h79_ hg1
      refine (does_nilCheck (ev rfl)).mono ?_; rintro _ _ ⟨rfl, rfl⟩
      exact ⟨fun _ => rfl, Ext.refl _⟩
    refine RW_d _ rfl (fun v => by dsimp only [List.set]; try rfl) (fun u hu hF => ?_) (fun v114 => ?_)
    · have h80_ : (ptsK A_s_.node.kind) = true → v113 = (Pt s__b s__o) := hF.1
      have h78_ : v111 = (Bo (ptsK A_s_.node.kind)) := hF.2.1
      clear hF
      obtain rfl := h78_
      refine doesG_g (b := (ptsK A_s_.node.kind)) rfl (yld rfl rfl) (fun hg1 => ?_) (fun hc => ⟨fun hg1 => absurd hg1 hc, Ext.refl _⟩)
      obtain rfl := h80_ hg1
      refine (does_fieldAddr (ev rfl) fa100_1).mono ?_; rintro _ _ ⟨rfl, rfl⟩
      exact ⟨fun _ => rfl, Ext.refl _⟩
    refine RW_d _ rfl (fun v => by dsimp only [List.set]; try rfl) (fun u hu hF => ?_) (fun v115 => ?_)
    · have h81_ : (ptsK A_s_.node.kind) = true → v114 = (Pt s__b (s__o + 1)) := hF.1
      have h78_ : v111 = (Bo (ptsK A_s_.node.kind)) := hF.2.1
      clear hF
      obtain rfl := h78_
      refine doesG_g (b := (ptsK A_s_.node.kind)) rfl (yld rfl rfl) (fun hg1 => ?_) (fun hc => ⟨fun hg1 => absurd hg1 hc, Ext.refl _⟩)
      obtain rfl := h81_ hg1
      refine (does_load (u := (Iv A_s_.to)) (ev rfl) Try.isAgg2 (Cells.at ((hc_s_.ext X94).ext hu) 1 rfl)).mono ?_; rintro _ _ ⟨rfl, rfl⟩
      exact ⟨fun _ => rfl, Ext.refl _⟩
    refine RW_d _ rfl (fun v => by dsimp only [List.set]; try rfl) (fun u hu hF => ?_) (fun v116 => ?_)
    · have h82_ : (ptsK A_s_.node.kind) = true → v115 = (Iv A_s_.to) := hF.1
      have h78_ : v111 = (Bo (ptsK A_s_.node.kind)) := hF.2.1
      clear hF
      obtain rfl := h78_
      refine doesG_g (b := (ptsK A_s_.node.kind)) rfl (yld rfl rfl) (fun hg1 => ?_) (fun hc => ⟨fun hg1 => absurd hg1 hc, Ext.refl _⟩)
      obtain rfl := h82_ hg1
      refine (does_icmp (p := A_s_.to) (q := 0) (.inr (.inl rfl)) (ev rfl) (ev rfl)).mono ?_; rintro _ _ ⟨rfl, rfl⟩
      exact ⟨fun _ => rfl, Ext.refl _⟩
    refine RW_d _ rfl (fun v => by dsimp only [List.set]; try rfl) (fun u hu hF => ?_) (fun v117 => ?_)
    · have h78_ : v111 = (Bo (ptsK A_s_.node.kind)) := hF.1
      have h83_ : (ptsK A_s_.node.kind) = true → v116 = (Bo (icmp .neq A_s_.to 0)) := hF.2.1
      clear hF
      refine doesG_un rfl ?_
      skip
      obtain rfl := h78_
      refine (does_pick (b := (ptsK A_s_.node.kind)) (ev rfl) (ev rfl) (ev rfl)).mono ?_; rintro _ _ ⟨rfl, rfl⟩; refine ⟨?_, Ext.refl _⟩; rw [hβ7]; skip
      cases hbb : (ptsK A_s_.node.kind) <;> simp [hbb] at h83_ ⊢
      all_goals (first | rfl | (subst h83_; rfl) | simp_all)
    refine RW_d _ rfl (fun v => by dsimp only [List.set]; try rfl) (fun u hu hF => ?_) (fun v118 => ?_)
    · have h84_ : v117 = (Bo β7) := hF.1
      clear hF
      refine doesG_un rfl ?_
      obtain rfl := h84_
      refine (does_move (u := (Bo β7)) (ev rfl)).mono ?_; rintro _ _ ⟨rfl, rfl⟩
      exact ⟨rfl, Ext.refl _⟩
    refine RW_d _ rfl (fun v => by dsimp only [List.set]; try rfl) (fun u hu hF => ?_) (fun v119 => ?_)
    · have h85_ : v118 = (Bo β7) := hF.1
      clear hF
      obtain rfl := h85_
      refine doesG_g (b := β7) rfl (yld rfl rfl) (fun hg1 => ?_) (fun hc => ⟨fun hg1 => absurd hg1 hc, Ext.refl _⟩)
      refine (does_move (u := (.func (.func 99) #[] #[(Pt b12 0)])) (ev rfl)).mono ?_; rintro _ _ ⟨rfl, rfl⟩
      exact ⟨fun _ => rfl, Ext.refl _⟩
    refine RW_d _ rfl (fun v => by dsimp only [List.set]; try rfl) (fun u hu hF => ?_) (fun v120 => ?_)
    · have h85_ : v118 = (Bo β7) := hF.1
      clear hF
      obtain rfl := h85_
      refine doesG_g (b := β7) rfl (yld rfl rfl) (fun hg1 => ?_) (fun hc => ⟨fun hg1 => absurd hg1 hc, Ext.refl _⟩)
      refine (does_move (u := (Pt s__b s__o)) (ev rfl)).mono ?_; rintro _ _ ⟨rfl, rfl⟩
      exact ⟨fun _ => rfl, Ext.refl _⟩
    refine RW_d _ rfl (fun v => by dsimp only [List.set]; try rfl) (fun u hu hF => ?_) (fun v121 => ?_)
    · have h87_ : β7 = true → v120 = (Pt s__b s__o) := hF.1
      have h85_ : v118 = (Bo β7) := hF.2.1
      clear hF
      obtain rfl := h85_
      refine doesG_g (b := β7) rfl (yld rfl rfl) (fun hg1 => ?_) (fun hc => ⟨fun hg1 => absurd hg1 hc, Ext.refl _⟩)
      obtain rfl := h87_ hg1
      refine (does_nilCheck (ev rfl)).mono ?_; rintro _ _ ⟨rfl, rfl⟩
      exact ⟨fun _ => rfl, Ext.refl _⟩
    refine RW_d _ rfl (fun v => by dsimp only [List.set]; try rfl) (fun u hu hF => ?_) (fun v122 => ?_)
    · have h88_ : β7 = true → v121 = (Pt s__b s__o) := hF.1
      have h85_ : v118 = (Bo β7) := hF.2.1
      clear hF
      obtain rfl := h85_
      refine doesG_g (b := β7) rfl (yld rfl rfl) (fun hg1 => ?_) (fun hc => ⟨fun hg1 => absurd hg1 hc, Ext.refl _⟩)
      obtain rfl := h88_ hg1
      refine (does_fieldAddr (ev rfl) fa100_1).mono ?_; rintro _ _ ⟨rfl, rfl⟩
      exact ⟨fun _ => rfl, Ext.refl _⟩
    refine RW_d _ rfl (fun v => by dsimp only [List.set]; try rfl) (fun u hu hF => ?_) (fun v123 => ?_)
    · have h89_ : β7 = true → v122 = (Pt s__b (s__o + 1)) := hF.1
      have h85_ : v118 = (Bo β7) := hF.2.1
      clear hF
      obtain rfl := h85_
      refine doesG_g (b := β7) rfl (yld rfl rfl) (fun hg1 => ?_) (fun hc => ⟨fun hg1 => absurd hg1 hc, Ext.refl _⟩)
      obtain rfl := h89_ hg1
      refine (does_load (u := (Iv A_s_.to)) (ev rfl) Try.isAgg2 (Cells.at ((hc_s_.ext X94).ext hu) 1 rfl)).mono ?_; rintro _ _ ⟨rfl, rfl⟩
      exact ⟨fun _ => rfl, Ext.refl _⟩
    refine RW_d _ rfl (fun v => by dsimp only [List.set]; try rfl) (fun u hu hF => ?_) (fun v124 => ?_)
    · have h90_ : β7 = true → v123 = (Iv A_s_.to) := hF.1
      have h86_ : β7 = true → v119 = (.func (.func 99) #[] #[(Pt b12 0)]) := hF.2.1
      have h85_ : v118 = (Bo β7) := hF.2.2.1
      clear hF
      obtain rfl := h85_
      refine doesG_g (b := β7) rfl (yld rfl rfl) (fun hg1 => ?_) (fun hc => ⟨fun hg1 => absurd hg1 hc, Ext.refl _⟩)
      obtain rfl := h90_ hg1
      obtain rfl := h86_ hg1
      refine (does_callv (fst := #[]) (args := #[(Iv A_s_.to)]) (cap := #[(Pt b12 0)]) (all := #[(Iv A_s_.to), (Pt b12 0)]) (ev rfl) cal99 (evs rfl) rfl (c_impl_Step_ok_1 A_s_.to b12 0 p_b p_o [(Iv A_p.points), (Iv A_p.values), (.slice p8 A_p.steps.length q9)] A_p _ ((hc_p.ext X94).ext hu) ⟨(.slice p8 A_p.steps.length q9), rfl, (Sl.ext (Sl.ext hs10 RStepT.mono X94) RStepT.mono hu)⟩ (Blk.cells ((((((hB14.ext E22).ext E28).wr W35 (Nat.ne_of_lt n32)).ext E42).ext E91).ext hu)))).mono ?_; rintro v u' ⟨hx, hv⟩
      exact ⟨fun _ => hv.trans (by simp only [hβ8]), hx⟩
    refine RW_d _ rfl (fun v => by dsimp only [List.set]; try rfl) (fun u hu hF => ?_) (fun v125 => ?_)
    · have h85_ : v118 = (Bo β7) := hF.1
      have h91_ : β7 = true → v124 = (Bo β8) := hF.2.1
      clear hF
      refine doesG_un rfl ?_
      skip
      obtain rfl := h85_
      refine (does_pick (b := β7) (ev rfl) (ev rfl) (ev rfl)).mono ?_; rintro _ _ ⟨rfl, rfl⟩; refine ⟨?_, Ext.refl _⟩; skip
      cases hbb : β7 <;> simp [hbb] at h91_ ⊢
      all_goals (first | rfl | (subst h91_; rfl) | simp_all)
    refine RW_d _ rfl (fun v => by dsimp only [List.set]; try rfl) (fun u hu hF => ?_) (fun v126 => ?_)
    · have h92_ : v125 = (Bo (β7 && β8)) := hF.1
      clear hF
      refine doesG_un rfl ?_
      obtain rfl := h92_
      refine (does_move (u := (Bo (β7 && β8))) (ev rfl)).mono ?_; rintro _ _ ⟨rfl, rfl⟩
      exact ⟨rfl, Ext.refl _⟩
    refine RW_d _ rfl (fun v => by dsimp only [List.set]; try rfl) (fun u hu hF => ?_) (fun v127 => ?_)
    · have h93_ : v126 = (Bo (β7 && β8)) := hF.1
      clear hF
      obtain rfl := h93_
      refine doesG_g (b := (β7 && β8)) rfl (yld rfl rfl) (fun hg1 => ?_) (fun hc => ⟨fun hg1 => absurd hg1 hc, Ext.refl _⟩)
      refine (does_move (u := (.func (.func 99) #[] #[(Pt b12 0)])) (ev rfl)).mono ?_; rintro _ _ ⟨rfl, rfl⟩
      exact ⟨fun _ => rfl, Ext.refl _⟩
    refine RW_d _ rfl (fun v => by dsimp only [List.set]; try rfl) (fun u hu hF => ?_) (fun v128 => ?_)
    · have h93_ : v126 = (Bo (β7 && β8)) := hF.1
      clear hF
      obtain rfl := h93_
      refine doesG_g (b := (β7 && β8)) rfl (yld rfl rfl) (fun hg1 => ?_) (fun hc => ⟨fun hg1 => absurd hg1 hc, Ext.refl _⟩)
      refine (does_move (u := (Pt s__b s__o)) (ev rfl)).mono ?_; rintro _ _ ⟨rfl, rfl⟩
      exact ⟨fun _ => rfl, Ext.refl _⟩
    refine RW_d _ rfl (fun v => by dsimp only [List.set]; try rfl) (fun u hu hF => ?_) (fun v129 => ?_)
    · have h95_ : (β7 && β8) = true → v128 = (Pt s__b s__o) := hF.1
      have h93_ : v126 = (Bo (β7 && β8)) := hF.2.1
      clear hF
      obtain rfl := h93_
      refine doesG_g (b := (β7 && β8)) rfl (yld rfl rfl) (fun hg1 => ?_) (fun hc => ⟨fun hg1 => absurd hg1 hc, Ext.refl _⟩)
      obtain rfl := h95_ hg1
      refine (does_nilCheck (ev rfl)).mono ?_; rintro _ _ ⟨rfl, rfl⟩
      exact ⟨fun _ => rfl, Ext.refl _⟩
    refine RW_d _ rfl (fun v => by dsimp only [List.set]; try rfl) (fun u hu hF => ?_) (fun v130 => ?_)
    · have h96_ : (β7 && β8) = true → v129 = (Pt s__b s__o) := hF.1
      have h93_ : v126 = (Bo (β7 && β8)) := hF.2.1
      clear hF
      obtain rfl := h93_
      refine doesG_g (b := (β7 && β8)) rfl (yld rfl rfl) (fun hg1 => ?_) (fun hc => ⟨fun hg1 => absurd hg1 hc, Ext.refl _⟩)
      obtain rfl := h96_ hg1
      refine (does_fieldAddr (ev rfl) fa100_2).mono ?_; rintro _ _ ⟨rfl, rfl⟩
      exact ⟨fun _ => rfl, Ext.refl _⟩
    refine RW_d _ rfl (fun v => by dsimp only [List.set]; try rfl) (fun u hu hF => ?_) (fun v131 => ?_)
    · have h97_ : (β7 && β8) = true → v130 = (Pt s__b (s__o + 2)) := hF.1
      have h93_ : v126 = (Bo (β7 && β8)) := hF.2.1
      clear hF
      obtain rfl := h93_
      refine doesG_g (b := (β7 && β8)) rfl (yld rfl rfl) (fun hg1 => ?_) (fun hc => ⟨fun hg1 => absurd hg1 hc, Ext.refl _⟩)
      obtain rfl := h97_ hg1
      refine (does_load (u := (Iv A_s_.a)) (ev rfl) Try.isAgg2 (Cells.at ((hc_s_.ext X94).ext hu) 2 rfl)).mono ?_; rintro _ _ ⟨rfl, rfl⟩
      exact ⟨fun _ => rfl, Ext.refl _⟩
    refine RW_d _ rfl (fun v => by dsimp only [List.set]; try rfl) (fun u hu hF => ?_) (fun v132 => ?_)
    · have h98_ : (β7 && β8) = true → v131 = (Iv A_s_.a) := hF.1
      have h94_ : (β7 && β8) = true → v127 = (.func (.func 99) #[] #[(Pt b12 0)]) := hF.2.1
      have h93_ : v126 = (Bo (β7 && β8)) := hF.2.2.1
      clear hF
      obtain rfl := h93_
      refine doesG_g (b := (β7 && β8)) rfl (yld rfl rfl) (fun hg1 => ?_) (fun hc => ⟨fun hg1 => absurd hg1 hc, Ext.refl _⟩)
      obtain rfl := h98_ hg1
      obtain rfl := h94_ hg1
      refine (does_callv (fst := #[]) (args := #[(Iv A_s_.a)]) (cap := #[(Pt b12 0)]) (all := #[(Iv A_s_.a), (Pt b12 0)]) (ev rfl) cal99 (evs rfl) rfl (c_impl_Step_ok_1 A_s_.a b12 0 p_b p_o [(Iv A_p.points), (Iv A_p.values), (.slice p8 A_p.steps.length q9)] A_p _ ((hc_p.ext X94).ext hu) ⟨(.slice p8 A_p.steps.length q9), rfl, (Sl.ext (Sl.ext hs10 RStepT.mono X94) RStepT.mono hu)⟩ (Blk.cells ((((((hB14.ext E22).ext E28).wr W35 (Nat.ne_of_lt n32)).ext E42).ext E91).ext hu)))).mono ?_; rintro v u' ⟨hx, hv⟩
      exact ⟨fun _ => hv.trans (by simp only [hβ9]), hx⟩
    refine RW_d _ rfl (fun v => by dsimp only [List.set]; try rfl) (fun u hu hF => ?_) (fun v133 => ?_)
    · have h93_ : v126 = (Bo (β7 && β8)) := hF.1
      have h99_ : (β7 && β8) = true → v132 = (Bo β9) := hF.2.1
      clear hF
      refine doesG_un rfl ?_
      skip
      obtain rfl := h93_
      refine (does_pick (b := (β7 && β8)) (ev rfl) (ev rfl) (ev rfl)).mono ?_; rintro _ _ ⟨rfl, rfl⟩; refine ⟨?_, Ext.refl _⟩; skip
      cases hbb : (β7 && β8) <;> simp [hbb] at h99_ ⊢
      all_goals (first | rfl | (subst h99_; rfl) | simp_all)
    refine RW_d _ rfl (fun v => by dsimp only [List.set]; try rfl) (fun u hu hF => ?_) (fun v134 => ?_)
    · have h100_ : v133 = (Bo ((β7 && β8) && β9)) := hF.1
      clear hF
      refine doesG_un rfl ?_
      obtain rfl := h100_
      refine (does_move (u := (Bo ((β7 && β8) && β9))) (ev rfl)).mono ?_; rintro _ _ ⟨rfl, rfl⟩
      exact ⟨rfl, Ext.refl _⟩
    refine RW_d _ rfl (fun v => by dsimp only [List.set]; try rfl) (fun u hu hF => ?_) (fun v135 => ?_)
    · have h101_ : v134 = (Bo ((β7 && β8) && β9)) := hF.1
      clear hF
      obtain rfl := h101_
      refine doesG_g (b := ((β7 && β8) && β9)) rfl (yld rfl rfl) (fun hg1 => ?_) (fun hc => ⟨fun hg1 => absurd hg1 hc, Ext.refl _⟩)
      refine (does_move (u := (Pt s__b s__o)) (ev rfl)).mono ?_; rintro _ _ ⟨rfl, rfl⟩
      exact ⟨fun _ => rfl, Ext.refl _⟩
    refine RW_d _ rfl (fun v => by dsimp only [List.set]; try rfl) (fun u hu hF => ?_) (fun v136 => ?_)
    · have h102_ : ((β7 && β8) && β9) = true → v135 = (Pt s__b s__o) := hF.1
      have h101_ : v134 = (Bo ((β7 && β8) && β9)) := hF.2.1
      clear hF
      obtain rfl := h101_
      refine doesG_g (b := ((β7 && β8) && β9)) rfl (yld rfl rfl) (fun hg1 => ?_) (fun hc => ⟨fun hg1 => absurd hg1 hc, Ext.refl _⟩)
      obtain rfl := h102_ hg1
      refine (does_nilCheck (ev rfl)).mono ?_; rintro _ _ ⟨rfl, rfl⟩
      exact ⟨fun _ => rfl, Ext.refl _⟩
    refine RW_d _ rfl (fun v => by dsimp only [List.set]; try rfl) (fun u hu hF => ?_) (fun v137 => ?_)
    · have h103_ : ((β7 && β8) && β9) = true → v136 = (Pt s__b s__o) := hF.1
      have h101_ : v134 = (Bo ((β7 && β8) && β9)) := hF.2.1
      clear hF
      obtain rfl := h101_
      refine doesG_g (b := ((β7 && β8) && β9)) rfl (yld rfl rfl) (fun hg1 => ?_) (fun hc => ⟨fun hg1 => absurd hg1 hc, Ext.refl _⟩)
      obtain rfl := h103_ hg1
      refine (does_fieldAddr (ev rfl) fa100_3).mono ?_; rintro _ _ ⟨rfl, rfl⟩
      exact ⟨fun _ => rfl, Ext.refl _⟩
    refine RW_d _ rfl (fun v => by dsimp only [List.set]; try rfl) (fun u hu hF => ?_) (fun v138 => ?_)
    · have h104_ : ((β7 && β8) && β9) = true → v137 = (Pt s__b (s__o + 3)) := hF.1
      have h101_ : v134 = (Bo ((β7 && β8) && β9)) := hF.2.1
      clear hF
      obtain rfl := h101_
      refine doesG_g (b := ((β7 && β8) && β9)) rfl (yld rfl rfl) (fun hg1 => ?_) (fun hc => ⟨fun hg1 => absurd hg1 hc, Ext.refl _⟩)
      obtain rfl := h104_ hg1
      refine (does_load (u := (Iv A_s_.b)) (ev rfl) Try.isAgg2 (Cells.at ((hc_s_.ext X94).ext hu) 3 rfl)).mono ?_; rintro _ _ ⟨rfl, rfl⟩
      exact ⟨fun _ => rfl, Ext.refl _⟩
    refine RW_d _ rfl (fun v => by dsimp only [List.set]; try rfl) (fun u hu hF => ?_) (fun v139 => ?_)
    · have h105_ : ((β7 && β8) && β9) = true → v138 = (Iv A_s_.b) := hF.1
      have h101_ : v134 = (Bo ((β7 && β8) && β9)) := hF.2.1
      clear hF
      obtain rfl := h101_
      refine doesG_g (b := ((β7 && β8) && β9)) rfl (yld rfl rfl) (fun hg1 => ?_) (fun hc => ⟨fun hg1 => absurd hg1 hc, Ext.refl _⟩)
      obtain rfl := h105_ hg1
      refine (does_icmp (p := A_s_.b) (q := 0) (.inl rfl) (ev rfl) (ev rfl)).mono ?_; rintro _ _ ⟨rfl, rfl⟩
      exact ⟨fun _ => rfl, Ext.refl _⟩
    refine RW_d _ rfl (fun v => by dsimp only [List.set]; try rfl) (fun u hu hF => ?_) (fun v140 => ?_)
    · have h101_ : v134 = (Bo ((β7 && β8) && β9)) := hF.1
      have h106_ : ((β7 && β8) && β9) = true → v139 = (Bo (icmp .eql A_s_.b 0)) := hF.2.1
      clear hF
      refine doesG_un rfl ?_
      skip
      obtain rfl := h101_
      refine (does_pick (b := ((β7 && β8) && β9)) (ev rfl) (ev rfl) (ev rfl)).mono ?_; rintro _ _ ⟨rfl, rfl⟩; refine ⟨?_, Ext.refl _⟩; rw [hβ10]; skip
      cases hbb : ((β7 && β8) && β9) <;> simp [hbb] at h106_ ⊢
      all_goals (first | rfl | (subst h106_; rfl) | simp_all)
    refine RW_fin ?_; intro w141 E142 hP143
    obtain ⟨⟨⟨⟨⟨⟨⟨⟨⟨⟨⟨⟨⟨⟨⟨⟨⟨⟨⟨⟨⟨⟨⟨⟨⟨⟨⟨⟨⟨⟨⟨⟨⟨⟨⟨⟨-, -⟩, -⟩, -⟩, -⟩, -⟩, -⟩, -⟩, -⟩, -⟩, -⟩, -⟩, -⟩, -⟩, -⟩, -⟩, -⟩, -⟩, -⟩, -⟩, -⟩, -⟩, -⟩, -⟩, -⟩, -⟩, -⟩, -⟩, -⟩, -⟩, -⟩, -⟩, -⟩, -⟩, -⟩, -⟩, q144⟩ := hP143
    have X145 := Ext.gr X94 E142
    have q144 : v140 = (Bo β10) := q144
    obtain rfl := q144
    show wpList _ _ _ _ (fr [(Pt s__b s__o), (Pt p_b p_o), Ud, (Pt b12 0), (Bo false), (Pt b25 0), (Bo (rlOk A_s_.node.kind)), (.func (.func 99) #[] #[(Pt b12 0)]), (.func (.func 100) #[] #[(Pt b12 0)]), Ud, (.tuple #[(.agg #[(Iv ((ruleP A_s_.node.kind).num)), (Iv ((ruleP A_s_.node.kind).ch)), (Bo ((ruleP A_s_.node.kind).ax)), (Iv ((ruleP A_s_.node.kind).sg))]), (Bo (rlOk A_s_.node.kind))]), (Pt s__b s__o), (Pt s__b s__o), (Pt s__b (s__o + 4)), (Pt s__b (s__o + 4)), (Iv A_s_.node.kind), (.tuple #[(.agg #[(Iv ((ruleP A_s_.node.kind).num)), (Iv ((ruleP A_s_.node.kind).ch)), (Bo ((ruleP A_s_.node.kind).ax)), (Iv ((ruleP A_s_.node.kind).sg))]), (Bo (rlOk A_s_.node.kind))]), (.agg #[(Iv ((ruleP A_s_.node.kind).num)), (Iv ((ruleP A_s_.node.kind).ch)), (Bo ((ruleP A_s_.node.kind).ax)), (Iv ((ruleP A_s_.node.kind).sg))]), (Bo (rlOk A_s_.node.kind)), v45, v46, v47, v48, v49, v50, v51, v52, v53, v54, v55, v56, v57, v58, v59, v60, v61, v62, v63, v64, v65, v66, v67, v68, v69, v70, v71, v72, v73, v74, v75, v76, v77, v78, v79, v80, v81, v82, v83, v84, v85, v86, v87, v88, (Bo (β3 || β6)), (.func (.func 99) #[] #[(Pt b12 0)]), (.func (.func 100) #[] #[(Pt b12 0)]), (Pt s__b s__o), (Pt s__b s__o), (Pt s__b s__o), (Iv A_s_.kind), (Bo (icmp .eql A_s_.kind 0)), (Bo (icmp .eql A_s_.kind 0)), v105, v106, v107, v108, v109, v110, v111, v112, v113, v114, v115, v116, v117, v118, v119, v120, v121, v122, v123, v124, v125, v126, v127, v128, v129, v130, v131, v132, v133, v134, v135, v136, v137, v138, v139, (Bo β10), Ud, Ud, Ud, Ud, Ud, Ud, Ud, Ud, Ud, Ud, Ud, Ud, Ud, Ud, Ud, Ud, Ud, Ud, Ud, Ud, Ud, Ud, Ud, Ud, Ud, Ud, Ud, Ud, Ud, Ud, Ud, Ud, Ud, Ud, Ud, Ud, Ud, Ud, Ud, Ud, Ud, Ud, Ud, Ud, Ud, Ud, Ud, Ud, Ud, Ud, Ud, Ud, Ud, Ud, Ud, Ud, Ud, Ud, Ud, Ud, Ud, Ud, Ud, Ud, Ud, Ud, Ud, Ud, Ud, Ud, Ud, Ud, Ud, Ud, Ud, Ud, Ud, Ud, Ud, Ud, Ud, Ud, Ud, Ud, Ud, Ud, Ud]) _
    refine q_is rfl rfl (does_assign (u := (Bo β10)) (ev rfl)) (by dsimp only [List.set]; try rfl) ?_
    refine wpList_nil (hK104 _ _ ?_)
    refine wp_ret ?_
    dsimp only [Exit.then, Exit.inBlock]
    refine ret_val (v := (Bo β10)) (res_T rfl (slot rfl)) X145 ?_
    try simp only [hβ1, hβ2, hβ3, hβ4, hβ5, hβ6, hβ7, hβ8, hβ9, hβ10] at c95 c103
    have x146 : (stepOk A_p A_s_) = β10 := by first | exact stepOk_n hno | exact stepOk_x (by assumption) (by assumption) (by assumption) | (rw [stepI_0 hno.1 (by assumption)]; first | done | (simp only [hβ1, hβ2, hβ3, hβ4, hβ5, hβ6, hβ7, hβ8, hβ9, hβ10, c95, c103]; done)) | (rw [stepI_1 hno.1 hno.2 (by assumption)]; first | done | (simp only [hβ1, hβ2, hβ3, hβ4, hβ5, hβ6, hβ7, hβ8, hβ9, hβ10, c95, c103]; done)) | (rw [stepI_2 hno.1 hno.2 (by assumption)]; first | done | (simp only [hβ1, hβ2, hβ3, hβ4, hβ5, hβ6, hβ7, hβ8, hβ9, hβ10, c95, c103]; done))
    exact (by first | rfl | rw [x146])
  have c103' := c103
  (try simp only [hβ1, hβ2, hβ3, hβ4, hβ5, hβ6] at c103')
  (try simp only [icmp, Bool.and_eq_true, Bool.or_eq_true, Bool.and_eq_false_iff, Bool.or_eq_false_iff, Bool.not_eq_true', Bool.not_eq_false', decide_eq_true_eq, decide_eq_false_iff_not, beq_iff_eq, bne_iff_ne, beq_eq_false_iff_ne, bne_eq_false_iff_eq] at c103')
  refine wp_seq_k fun K147 hK147 => ?_
  refine wp_region_lit ?_
  refine q_is rfl rfl (does_icmp (p := A_s_.kind) (q := 1) (.inl rfl) (ev rfl) (ev rfl)) (by dsimp only [List.set]; try rfl) ?_
  refine q_is rfl rfl (does_assign (u := (Bo (icmp .eql A_s_.kind 1))) (ev rfl)) (by dsimp only [List.set]; try rfl) ?_
  refine wpList_nil (hK147 _ _ ?_)
  refine wp_cond_split (t := icmp .eql A_s_.kind 1) (ev rfl) (fun c148 => ?_) (fun c148 => ?_)
  · have c148' := c148
    (try simp only [hβ1, hβ2, hβ3, hβ4, hβ5, hβ6] at c148')
    (try simp only [icmp, Bool.and_eq_true, Bool.or_eq_true, Bool.and_eq_false_iff, Bool.or_eq_false_iff, Bool.not_eq_true', Bool.not_eq_false', decide_eq_true_eq, decide_eq_false_iff_not, beq_iff_eq, bne_iff_ne, beq_eq_false_iff_ne, bne_eq_false_iff_eq] at c148')
    refine wp_seq_k fun K149 hK149 => ?_
    obtain ⟨β11, hβ11⟩ : ∃ b : Bool, b = (icmp .eql ((ruleP A_s_.node.kind).ch) 0) := ⟨_, rfl⟩
    obtain ⟨β12, hβ12⟩ : ∃ b : Bool, b = (inI A_s_.to 0 (IntKind.i64.wrap (A_p.values - 1))) := ⟨_, rfl⟩
    obtain ⟨β13, hβ13⟩ : ∃ b : Bool, b = (inI A_s_.a 0 (IntKind.i64.wrap (A_p.points - 1))) := ⟨_, rfl⟩
    obtain ⟨β14, hβ14⟩ : ∃ b : Bool, b = (((β11 && β12) && β13) && (icmp .eql A_s_.b 0)) := ⟨_, rfl⟩
    refine region_text (
      [Fact.pure [] (fun v => v = (Pt b25 1)),
    Fact.pure [110] (fun v => v = (Iv ((ruleP A_s_.node.kind).ch))),
    Fact.pure [111] (fun v => v = (Bo β11)),
    Fact.pure [112] (fun v => v = (Bo β11)),
    Fact.pure [113] (fun v => β11 = true → v = (.func (.func 100) #[] #[(Pt b12 0)])),
    Fact.pure [113] (fun v => β11 = true → v = (Pt s__b s__o)),
    Fact.pure [115, 113] (fun v => β11 = true → v = (Pt s__b s__o)),
    Fact.pure [116, 113] (fun v => β11 = true → v = (Pt s__b (s__o + 1))),
    Fact.pure [117, 113] (fun v => β11 = true → v = (Iv A_s_.to)),
    Fact.pure [118, 114, 113] (fun v => β11 = true → v = (Bo β12)),
    Fact.pure [113, 119] (fun v => v = (Bo (β11 && β12))),
    Fact.pure [120] (fun v => v = (Bo (β11 && β12))),
    Fact.pure [121] (fun v => (β11 && β12) = true → v = (.func (.func 99) #[] #[(Pt b12 0)])),
    Fact.pure [121] (fun v => (β11 && β12) = true → v = (Pt s__b s__o)),
    Fact.pure [123, 121] (fun v => (β11 && β12) = true → v = (Pt s__b s__o)),
    Fact.pure [124, 121] (fun v => (β11 && β12) = true → v = (Pt s__b (s__o + 2))),
    Fact.pure [125, 121] (fun v => (β11 && β12) = true → v = (Iv A_s_.a)),
    Fact.pure [126, 122, 121] (fun v => (β11 && β12) = true → v = (Bo β13)),
    Fact.pure [121, 127] (fun v => v = (Bo ((β11 && β12) && β13))),
    Fact.pure [128] (fun v => v = (Bo ((β11 && β12) && β13))),
    Fact.pure [129] (fun v => ((β11 && β12) && β13) = true → v = (Pt s__b s__o)),
    Fact.pure [130, 129] (fun v => ((β11 && β12) && β13) = true → v = (Pt s__b s__o)),
    Fact.pure [131, 129] (fun v => ((β11 && β12) && β13) = true → v = (Pt s__b (s__o + 3))),
    Fact.pure [132, 129] (fun v => ((β11 && β12) && β13) = true → v = (Iv A_s_.b)),
    Fact.pure [133, 129] (fun v => ((β11 && β12) && β13) = true → v = (Bo (icmp .eql A_s_.b 0))),
    Fact.pure [129, 134] (fun v => v = (Bo β14))]) (by simp [Fact.pure, Fact.mem]) ?_
    refine RW_d _ rfl (fun v => by dsimp only [List.set]; try rfl) (fun u hu hF => ?_) (fun v150 => ?_)
    · clear hF
      refine doesG_un rfl ?_
      refine (does_fieldAddr (ev rfl) fa140_1).mono ?_; rintro _ _ ⟨rfl, rfl⟩
      exact ⟨rfl, Ext.refl _⟩
    refine RW_d _ rfl (fun v => by dsimp only [List.set]; try rfl) (fun u hu hF => ?_) (fun v151 => ?_)
    · have h110_ : v150 = (Pt b25 1) := hF.1
      clear hF
      refine doesG_un rfl ?_
      obtain rfl := h110_
      refine (does_load (u := (Iv ((ruleP A_s_.node.kind).ch))) (ev rfl) Try.isAgg3 (Cells.at (Blk.cells (((hB36.ext E42).ext E91).ext hu)) 1 rfl)).mono ?_; rintro _ _ ⟨rfl, rfl⟩
      exact ⟨rfl, Ext.refl _⟩
    refine RW_d _ rfl (fun v => by dsimp only [List.set]; try rfl) (fun u hu hF => ?_) (fun v152 => ?_)
    · have h111_ : v151 = (Iv ((ruleP A_s_.node.kind).ch)) := hF.1
      clear hF
      refine doesG_un rfl ?_
      obtain rfl := h111_
      refine (does_icmp (p := (ruleP A_s_.node.kind).ch) (q := 0) (.inl rfl) (ev rfl) (ev rfl)).mono ?_; rintro _ _ ⟨rfl, rfl⟩
      exact ⟨(by first | rfl | (show _ = _; simp only [hβ11])), Ext.refl _⟩
    refine RW_d _ rfl (fun v => by dsimp only [List.set]; try rfl) (fun u hu hF => ?_) (fun v153 => ?_)
    · have h112_ : v152 = (Bo β11) := hF.1
      clear hF
      refine doesG_un rfl ?_
      obtain rfl := h112_
      refine (does_move (u := (Bo β11)) (ev rfl)).mono ?_; rintro _ _ ⟨rfl, rfl⟩
      exact ⟨rfl, Ext.refl _⟩
    refine RW_d _ rfl (fun v => by dsimp only [List.set]; try rfl) (fun u hu hF => ?_) (fun v154 => ?_)
    · have h113_ : v153 = (Bo β11) := hF.1
      clear hF
      obtain rfl := h113_
      refine doesG_g (b := β11) rfl (yld rfl rfl) (fun hg1 => ?_) (fun hc => ⟨fun hg1 => absurd hg1 hc, Ext.refl _⟩)
      refine (does_move (u := (.func (.func 100) #[] #[(Pt b12 0)])) (ev rfl)).mono ?_; rintro _ _ ⟨rfl, rfl⟩
      exact ⟨fun _ => rfl, Ext.refl _⟩
    refine RW_d _ rfl (fun v => by dsimp only [List.set]; try rfl) (fun u hu hF => ?_) (fun v155 => ?_)
    · have h113_ : v153 = (Bo β11) := hF.1
      clear hF
      obtain rfl := h113_
      refine doesG_g (b := β11) rfl (yld rfl rfl) (fun hg1 => ?_) (fun hc => ⟨fun hg1 => absurd hg1 hc, Ext.refl _⟩)
      refine (does_move (u := (Pt s__b s__o)) (ev rfl)).mono ?_; rintro _ _ ⟨rfl, rfl⟩
      exact ⟨fun _ => rfl, Ext.refl _⟩
    refine RW_d _ rfl (fun v => by dsimp only [List.set]; try rfl) (fun u hu hF => ?_) (fun v156 => ?_)
    · have h115_ : β11 = true → v155 = (Pt s__b s__o) := hF.1
      have h113_ : v153 = (Bo β11) := hF.2.1
      clear hF
      obtain rfl := h113_
      refine doesG_g (b := β11) rfl (yld rfl rfl) (fun hg1 => ?_) (fun hc => ⟨fun hg1 => absurd hg1 hc, Ext.refl _⟩)
      obtain rfl := h115_ hg1
      refine (does_nilCheck (ev rfl)).mono ?_; rintro _ _ ⟨rfl, rfl⟩
      exact ⟨fun _ => rfl, Ext.refl _⟩
    refine RW_d _ rfl (fun v => by dsimp only [List.set]; try rfl) (fun u hu hF => ?_) (fun v157 => ?_)
    · have h116_ : β11 = true → v156 = (Pt s__b s__o) := hF.1
      have h113_ : v153 = (Bo β11) := hF.2.1
      clear hF
      obtain rfl := h113_
      refine doesG_g (b := β11) rfl (yld rfl rfl) (fun hg1 => ?_) (fun hc => ⟨fun hg1 => absurd hg1 hc, Ext.refl _⟩)
      obtain rfl := h116_ hg1
      refine (does_fieldAddr (ev rfl) fa100_1).mono ?_; rintro _ _ ⟨rfl, rfl⟩
      exact ⟨fun _ => rfl, Ext.refl _⟩
    refine RW_d _ rfl (fun v => by dsimp only [List.set]; try rfl) (fun u hu hF => ?_) (fun v158 => ?_)
    · have h117_ : β11 = true → v157 = (Pt s__b (s__o + 1)) := hF.1
      have h113_ : v153 = (Bo β11) := hF.2.1
      clear hF
      obtain rfl := h113_
      refine doesG_g (b := β11) rfl (yld rfl rfl) (fun hg1 => ?_) (fun hc => ⟨fun hg1 => absurd hg1 hc, Ext.refl _⟩)
      obtain rfl := h117_ hg1
      refine (does_load (u := (Iv A_s_.to)) (ev rfl) Try.isAgg2 (Cells.at ((hc_s_.ext X94).ext hu) 1 rfl)).mono ?_; rintro _ _ ⟨rfl, rfl⟩
      exact ⟨fun _ => rfl, Ext.refl _⟩
    refine RW_d _ rfl (fun v => by dsimp only [List.set]; try rfl) (fun u hu hF => ?_) (fun v159 => ?_)
    · have h118_ : β11 = true → v158 = (Iv A_s_.to) := hF.1
      have h114_ : β11 = true → v154 = (.func (.func 100) #[] #[(Pt b12 0)]) := hF.2.1
      have h113_ : v153 = (Bo β11) := hF.2.2.1
      clear hF
      obtain rfl := h113_
      refine doesG_g (b := β11) rfl (yld rfl rfl) (fun hg1 => ?_) (fun hc => ⟨fun hg1 => absurd hg1 hc, Ext.refl _⟩)
      obtain rfl := h118_ hg1
      obtain rfl := h114_ hg1
      refine (does_callv (fst := #[]) (args := #[(Iv A_s_.to)]) (cap := #[(Pt b12 0)]) (all := #[(Iv A_s_.to), (Pt b12 0)]) (ev rfl) cal100 (evs rfl) rfl (c_impl_Step_ok_2 A_s_.to b12 0 p_b p_o [(Iv A_p.points), (Iv A_p.values), (.slice p8 A_p.steps.length q9)] A_p _ ((hc_p.ext X94).ext hu) ⟨(.slice p8 A_p.steps.length q9), rfl, (Sl.ext (Sl.ext hs10 RStepT.mono X94) RStepT.mono hu)⟩ (Blk.cells ((((((hB14.ext E22).ext E28).wr W35 (Nat.ne_of_lt n32)).ext E42).ext E91).ext hu)))).mono ?_; rintro v u' ⟨hx, hv⟩
      exact ⟨fun _ => hv.trans (by simp only [hβ12]), hx⟩
    refine RW_d _ rfl (fun v => by dsimp only [List.set]; try rfl) (fun u hu hF => ?_) (fun v160 => ?_)
    · have h113_ : v153 = (Bo β11) := hF.1
      have h119_ : β11 = true → v159 = (Bo β12) := hF.2.1
      clear hF
      refine doesG_un rfl ?_
      skip
      obtain rfl := h113_
      refine (does_pick (b := β11) (ev rfl) (ev rfl) (ev rfl)).mono ?_; rintro _ _ ⟨rfl, rfl⟩; refine ⟨?_, Ext.refl _⟩; skip
      cases hbb : β11 <;> simp [hbb] at h119_ ⊢
      all_goals (first | rfl | (subst h119_; rfl) | simp_all)
    refine RW_d _ rfl (fun v => by dsimp only [List.set]; try rfl) (fun u hu hF => ?_) (fun v161 => ?_)
    · have h120_ : v160 = (Bo (β11 && β12)) := hF.1
      clear hF
      refine doesG_un rfl ?_
      obtain rfl := h120_
      refine (does_move (u := (Bo (β11 && β12))) (ev rfl)).mono ?_; rintro _ _ ⟨rfl, rfl⟩
      exact ⟨rfl, Ext.refl _⟩
    refine RW_d _ rfl (fun v => by dsimp only [List.set]; try rfl) (fun u hu hF => ?_) (fun v162 => ?_)
    · have h121_ : v161 = (Bo (β11 && β12)) := hF.1
      clear hF
      obtain rfl := h121_
      refine doesG_g (b := (β11 && β12)) rfl (yld rfl rfl) (fun hg1 => ?_) (fun hc => ⟨fun hg1 => absurd hg1 hc, Ext.refl _⟩)
      refine (does_move (u := (.func (.func 99) #[] #[(Pt b12 0)])) (ev rfl)).mono ?_; rintro _ _ ⟨rfl, rfl⟩
      exact ⟨fun _ => rfl, Ext.refl _⟩
    refine RW_d _ rfl (fun v => by dsimp only [List.set]; try rfl) (fun u hu hF => ?_) (fun v163 => ?_)
    · have h121_ : v161 = (Bo (β11 && β12)) := hF.1
      clear hF
      obtain rfl := h121_
      refine doesG_g (b := (β11 && β12)) rfl (yld rfl rfl) (fun hg1 => ?_) (fun hc => ⟨fun hg1 => absurd hg1 hc, Ext.refl _⟩)
      refine (does_move (u := (Pt s__b s__o)) (ev rfl)).mono ?_; rintro _ _ ⟨rfl, rfl⟩
      exact ⟨fun _ => rfl, Ext.refl _⟩
    refine RW_d _ rfl (fun v => by dsimp only [List.set]; try rfl) (fun u hu hF => ?_) (fun v164 => ?_)
    · have h123_ : (β11 && β12) = true → v163 = (Pt s__b s__o) := hF.1
      have h121_ : v161 = (Bo (β11 && β12)) := hF.2.1
      clear hF
      obtain rfl := h121_
      refine doesG_g (b := (β11 && β12)) rfl (yld rfl rfl) (fun hg1 => ?_) (fun hc => ⟨fun hg1 => absurd hg1 hc, Ext.refl _⟩)
      obtain rfl := h123_ hg1
      refine (does_nilCheck (ev rfl)).mono ?_; rintro _ _ ⟨rfl, rfl⟩
      exact ⟨fun _ => rfl, Ext.refl _⟩
    refine RW_d _ rfl (fun v => by dsimp only [List.set]; try rfl) (fun u hu hF => ?_) (fun v165 => ?_)
    · have h124_ : (β11 && β12) = true → v164 = (Pt s__b s__o) := hF.1
      have h121_ : v161 = (Bo (β11 && β12)) := hF.2.1
      clear hF
      obtain rfl := h121_
      refine doesG_g (b := (β11 && β12)) rfl (yld rfl rfl) (fun hg1 => ?_) (fun hc => ⟨fun hg1 => absurd hg1 hc, Ext.refl _⟩)
      obtain rfl := h124_ hg1
      refine (does_fieldAddr (ev rfl) fa100_2).mono ?_; rintro _ _ ⟨rfl, rfl⟩
      exact ⟨fun _ => rfl, Ext.refl _⟩
    refine RW_d _ rfl (fun v => by dsimp only [List.set]; try rfl) (fun u hu hF => ?_) (fun v166 => ?_)
    · have h125_ : (β11 && β12) = true → v165 = (Pt s__b (s__o + 2)) := hF.1
      have h121_ : v161 = (Bo (β11 && β12)) := hF.2.1
      clear hF
      obtain rfl := h121_
      refine doesG_g (b := (β11 && β12)) rfl (yld rfl rfl) (fun hg1 => ?_) (fun hc => ⟨fun hg1 => absurd hg1 hc, Ext.refl _⟩)
      obtain rfl := h125_ hg1
      refine (does_load (u := (Iv A_s_.a)) (ev rfl) Try.isAgg2 (Cells.at ((hc_s_.ext X94).ext hu) 2 rfl)).mono ?_; rintro _ _ ⟨rfl, rfl⟩
      exact ⟨fun _ => rfl, Ext.refl _⟩
    refine RW_d _ rfl (fun v => by dsimp only [List.set]; try rfl) (fun u hu hF => ?_) (fun v167 => ?_)
    · have h126_ : (β11 && β12) = true → v166 = (Iv A_s_.a) := hF.1
      have h122_ : (β11 && β12) = true → v162 = (.func (.func 99) #[] #[(Pt b12 0)]) := hF.2.1
      have h121_ : v161 = (Bo (β11 && β12)) := hF.2.2.1
      clear hF
      obtain rfl := h121_
      refine doesG_g (b := (β11 && β12)) rfl (yld rfl rfl) (fun hg1 => ?_) (fun hc => ⟨fun hg1 => absurd hg1 hc, Ext.refl _⟩)
      obtain rfl := h126_ hg1
      obtain rfl := h122_ hg1
      refine (does_callv (fst := #[]) (args := #[(Iv A_s_.a)]) (cap := #[(Pt b12 0)]) (all := #[(Iv A_s_.a), (Pt b12 0)]) (ev rfl) cal99 (evs rfl) rfl (c_impl_Step_ok_1 A_s_.a b12 0 p_b p_o [(Iv A_p.points), (Iv A_p.values), (.slice p8 A_p.steps.length q9)] A_p _ ((hc_p.ext X94).ext hu) ⟨(.slice p8 A_p.steps.length q9), rfl, (Sl.ext (Sl.ext hs10 RStepT.mono X94) RStepT.mono hu)⟩ (Blk.cells ((((((hB14.ext E22).ext E28).wr W35 (Nat.ne_of_lt n32)).ext E42).ext E91).ext hu)))).mono ?_; rintro v u' ⟨hx, hv⟩
      exact ⟨fun _ => hv.trans (by simp only [hβ13]), hx⟩
    refine RW_d _ rfl (fun v => by dsimp only [List.set]; try rfl) (fun u hu hF => ?_) (fun v168 => ?_)
    · have h121_ : v161 = (Bo (β11 && β12)) := hF.1
      have h127_ : (β11 && β12) = true → v167 = (Bo β13) := hF.2.1
      clear hF
      refine doesG_un rfl ?_
      skip
      obtain rfl := h121_
      refine (does_pick (b := (β11 && β12)) (ev rfl) (ev rfl) (ev rfl)).mono ?_; rintro _ _ ⟨rfl, rfl⟩; refine ⟨?_, Ext.refl _⟩; skip
      cases hbb : (β11 && β12) <;> simp [hbb] at h127_ ⊢
      all_goals (first | rfl | (subst h127_; rfl) | simp_all)
    refine RW_d _ rfl (fun v => by dsimp only [List.set]; try rfl) (fun u hu hF => ?_) (fun v169 => ?_)
    · have h128_ : v168 = (Bo ((β11 && β12) && β13)) := hF.1
      clear hF
      refine doesG_un rfl ?_
      obtain rfl := h128_
      refine (does_move (u := (Bo ((β11 && β12) && β13))) (ev rfl)).mono ?_; rintro _ _ ⟨rfl, rfl⟩
      exact ⟨rfl, Ext.refl _⟩
    refine RW_d _ rfl (fun v => by dsimp only [List.set]; try rfl) (fun u hu hF => ?_) (fun v170 => ?_)
    · have h129_ : v169 = (Bo ((β11 && β12) && β13)) := hF.1
      clear hF
      obtain rfl := h129_
      refine doesG_g (b := ((β11 && β12) && β13)) rfl (yld rfl rfl) (fun hg1 => ?_) (fun hc => ⟨fun hg1 => absurd hg1 hc, Ext.refl _⟩)
      refine (does_move (u := (Pt s__b s__o)) (ev rfl)).mono ?_; rintro _ _ ⟨rfl, rfl⟩
      exact ⟨fun _ => rfl, Ext.refl _⟩
    refine RW_d _ rfl (fun v => by dsimp only [List.set]; try rfl) (fun u hu hF => ?_) (fun v171 => ?_)
    · have h130_ : ((β11 && β12) && β13) = true → v170 = (Pt s__b s__o) := hF.1
      have h129_ : v169 = (Bo ((β11 && β12) && β13)) := hF.2.1
      clear hF
      obtain rfl := h129_
      refine doesG_g (b := ((β11 && β12) && β13)) rfl (yld rfl rfl) (fun hg1 => ?_) (fun hc => ⟨fun hg1 => absurd hg1 hc, Ext.refl _⟩)
      obtain rfl := h130_ hg1
      refine (does_nilCheck (ev rfl)).mono ?_; rintro _ _ ⟨rfl, rfl⟩
      exact ⟨fun _ => rfl, Ext.refl _⟩
    refine RW_d _ rfl (fun v => by dsimp only [List.set]; try rfl) (fun u hu hF => ?_) (fun v172 => ?_)
    · have h131_ : ((β11 && β12) && β13) = true → v171 = (Pt s__b s__o) := hF.1
      have h129_ : v169 = (Bo ((β11 && β12) && β13)) := hF.2.1
      clear hF
      obtain rfl := h129_
      refine doesG_g (b := ((β11 && β12) && β13)) rfl (yld rfl rfl) (fun hg1 => ?_) (fun hc => ⟨fun hg1 => absurd hg1 hc, Ext.refl _⟩)
      obtain rfl := h131_ hg1
      refine (does_fieldAddr (ev rfl) fa100_3).mono ?_; rintro _ _ ⟨rfl, rfl⟩
      exact ⟨fun _ => rfl, Ext.refl _⟩
    refine RW_d _ rfl (fun v => by dsimp only [List.set]; try rfl) (fun u hu hF => ?_) (fun v173 => ?_)
    · have h132_ : ((β11 && β12) && β13) = true → v172 = (Pt s__b (s__o + 3)) := hF.1
      have h129_ : v169 = (Bo ((β11 && β12) && β13)) := hF.2.1
      clear hF
      obtain rfl := h129_
      refine doesG_g (b := ((β11 && β12) && β13)) rfl (yld rfl rfl) (fun hg1 => ?_) (fun hc => ⟨fun hg1 => absurd hg1 hc, Ext.refl _⟩)
      obtain rfl := h132_ hg1
      refine (does_load (u := (Iv A_s_.b)) (ev rfl) Try.isAgg2 (Cells.at ((hc_s_.ext X94).ext hu) 3 rfl)).mono ?_; rintro _ _ ⟨rfl, rfl⟩
      exact ⟨fun _ => rfl, Ext.refl _⟩
    refine RW_d _ rfl (fun v => by dsimp only [List.set]; try rfl) (fun u hu hF => ?_) (fun v174 => ?_)
    · have h133_ : ((β11 && β12) && β13) = true → v173 = (Iv A_s_.b) := hF.1
      have h129_ : v169 = (Bo ((β11 && β12) && β13)) := hF.2.1
      clear hF
      obtain rfl := h129_
      refine doesG_g (b := ((β11 && β12) && β13)) rfl (yld rfl rfl) (fun hg1 => ?_) (fun hc => ⟨fun hg1 => absurd hg1 hc, Ext.refl _⟩)
      obtain rfl := h133_ hg1
      refine (does_icmp (p := A_s_.b) (q := 0) (.inl rfl) (ev rfl) (ev rfl)).mono ?_; rintro _ _ ⟨rfl, rfl⟩
      exact ⟨fun _ => rfl, Ext.refl _⟩
    refine RW_d _ rfl (fun v => by dsimp only [List.set]; try rfl) (fun u hu hF => ?_) (fun v175 => ?_)
    · have h129_ : v169 = (Bo ((β11 && β12) && β13)) := hF.1
      have h134_ : ((β11 && β12) && β13) = true → v174 = (Bo (icmp .eql A_s_.b 0)) := hF.2.1
      clear hF
      refine doesG_un rfl ?_
      skip
      obtain rfl := h129_
      refine (does_pick (b := ((β11 && β12) && β13)) (ev rfl) (ev rfl) (ev rfl)).mono ?_; rintro _ _ ⟨rfl, rfl⟩; refine ⟨?_, Ext.refl _⟩; rw [hβ14]; skip
      cases hbb : ((β11 && β12) && β13) <;> simp [hbb] at h134_ ⊢
      all_goals (first | rfl | (subst h134_; rfl) | simp_all)
    refine RW_fin ?_; intro w176 E177 hP178
    obtain ⟨⟨⟨⟨⟨⟨⟨⟨⟨⟨⟨⟨⟨⟨⟨⟨⟨⟨⟨⟨⟨⟨⟨⟨⟨⟨-, -⟩, -⟩, -⟩, -⟩, -⟩, -⟩, -⟩, -⟩, -⟩, -⟩, -⟩, -⟩, -⟩, -⟩, -⟩, -⟩, -⟩, -⟩, -⟩, -⟩, -⟩, -⟩, -⟩, -⟩, -⟩, q179⟩ := hP178
    have X180 := Ext.gr X94 E177
    have q179 : v175 = (Bo β14) := q179
    obtain rfl := q179
    show wpList _ _ _ _ (fr [(Pt s__b s__o), (Pt p_b p_o), Ud, (Pt b12 0), (Bo false), (Pt b25 0), (Bo (rlOk A_s_.node.kind)), (.func (.func 99) #[] #[(Pt b12 0)]), (.func (.func 100) #[] #[(Pt b12 0)]), Ud, (.tuple #[(.agg #[(Iv ((ruleP A_s_.node.kind).num)), (Iv ((ruleP A_s_.node.kind).ch)), (Bo ((ruleP A_s_.node.kind).ax)), (Iv ((ruleP A_s_.node.kind).sg))]), (Bo (rlOk A_s_.node.kind))]), (Pt s__b s__o), (Pt s__b s__o), (Pt s__b (s__o + 4)), (Pt s__b (s__o + 4)), (Iv A_s_.node.kind), (.tuple #[(.agg #[(Iv ((ruleP A_s_.node.kind).num)), (Iv ((ruleP A_s_.node.kind).ch)), (Bo ((ruleP A_s_.node.kind).ax)), (Iv ((ruleP A_s_.node.kind).sg))]), (Bo (rlOk A_s_.node.kind))]), (.agg #[(Iv ((ruleP A_s_.node.kind).num)), (Iv ((ruleP A_s_.node.kind).ch)), (Bo ((ruleP A_s_.node.kind).ax)), (Iv ((ruleP A_s_.node.kind).sg))]), (Bo (rlOk A_s_.node.kind)), v45, v46, v47, v48, v49, v50, v51, v52, v53, v54, v55, v56, v57, v58, v59, v60, v61, v62, v63, v64, v65, v66, v67, v68, v69, v70, v71, v72, v73, v74, v75, v76, v77, v78, v79, v80, v81, v82, v83, v84, v85, v86, v87, v88, (Bo (β3 || β6)), (.func (.func 99) #[] #[(Pt b12 0)]), (.func (.func 100) #[] #[(Pt b12 0)]), (Pt s__b s__o), (Pt s__b s__o), (Pt s__b s__o), (Iv A_s_.kind), (Bo (icmp .eql A_s_.kind 0)), (Bo (icmp .eql A_s_.kind 0)), Ud, Ud, Ud, Ud, Ud, Ud, Ud, Ud, Ud, Ud, Ud, Ud, Ud, Ud, Ud, Ud, Ud, Ud, Ud, Ud, Ud, Ud, Ud, Ud, Ud, Ud, Ud, Ud, Ud, Ud, Ud, Ud, Ud, Ud, Ud, Ud, (Bo (icmp .eql A_s_.kind 1)), (Bo (icmp .eql A_s_.kind 1)), v150, v151, v152, v153, v154, v155, v156, v157, v158, v159, v160, v161, v162, v163, v164, v165, v166, v167, v168, v169, v170, v171, v172, v173, v174, (Bo β14), Ud, Ud, Ud, Ud, Ud, Ud, Ud, Ud, Ud, Ud, Ud, Ud, Ud, Ud, Ud, Ud, Ud, Ud, Ud, Ud, Ud, Ud, Ud, Ud, Ud, Ud, Ud, Ud, Ud, Ud, Ud, Ud, Ud, Ud, Ud, Ud, Ud, Ud, Ud, Ud, Ud, Ud, Ud, Ud, Ud, Ud, Ud, Ud, Ud, Ud, Ud, Ud, Ud, Ud, Ud, Ud, Ud, Ud, Ud]) _
    refine q_is rfl rfl (does_assign (u := (Bo β14)) (ev rfl)) (by dsimp only [List.set]; try rfl) ?_
    refine wpList_nil (hK149 _ _ ?_)
    refine wp_ret ?_
    dsimp only [Exit.then, Exit.inBlock]
    refine ret_val (v := (Bo β14)) (res_T rfl (slot rfl)) X180 ?_
    try simp only [hβ1, hβ2, hβ3, hβ4, hβ5, hβ6, hβ11, hβ12, hβ13, hβ14] at c95 c103 c148
    have x181 : (stepOk A_p A_s_) = β14 := by first | exact stepOk_n hno | exact stepOk_x (by assumption) (by assumption) (by assumption) | (rw [stepI_0 hno.1 (by assumption)]; first | done | (simp only [hβ1, hβ2, hβ3, hβ4, hβ5, hβ6, hβ11, hβ12, hβ13, hβ14, c95, c103, c148]; done)) | (rw [stepI_1 hno.1 hno.2 (by assumption)]; first | done | (simp only [hβ1, hβ2, hβ3, hβ4, hβ5, hβ6, hβ11, hβ12, hβ13, hβ14, c95, c103, c148]; done)) | (rw [stepI_2 hno.1 hno.2 (by assumption)]; first | done | (simp only [hβ1, hβ2, hβ3, hβ4, hβ5, hβ6, hβ11, hβ12, hβ13, hβ14, c95, c103, c148]; done))
    exact (by first | rfl | rw [x181])
  have c148' := c148
  (try simp only [hβ1, hβ2, hβ3, hβ4, hβ5, hβ6] at c148')
  (try simp only [icmp, Bool.and_eq_true, Bool.or_eq_true, Bool.and_eq_false_iff, Bool.or_eq_false_iff, Bool.not_eq_true', Bool.not_eq_false', decide_eq_true_eq, decide_eq_false_iff_not, beq_iff_eq, bne_iff_ne, beq_eq_false_iff_ne, bne_eq_false_iff_eq] at c148')
  refine wp_seq_k fun K182 hK182 => ?_
  refine wp_region_lit ?_
  refine q_is rfl rfl (does_icmp (p := A_s_.kind) (q := 2) (.inl rfl) (ev rfl) (ev rfl)) (by dsimp only [List.set]; try rfl) ?_
  refine q_is rfl rfl (does_assign (u := (Bo (icmp .eql A_s_.kind 2))) (ev rfl)) (by dsimp only [List.set]; try rfl) ?_
  refine wpList_nil (hK182 _ _ ?_)
  refine wp_cond_split (t := icmp .eql A_s_.kind 2) (ev rfl) (fun c183 => ?_) (fun c183 => ?_)
  · have c183' := c183
    (try simp only [hβ1, hβ2, hβ3, hβ4, hβ5, hβ6] at c183')
    (try simp only [icmp, Bool.and_eq_true, Bool.or_eq_true, Bool.and_eq_false_iff, Bool.or_eq_false_iff, Bool.not_eq_true', Bool.not_eq_false', decide_eq_true_eq, decide_eq_false_iff_not, beq_iff_eq, bne_iff_ne, beq_eq_false_iff_ne, bne_eq_false_iff_eq] at c183')
    refine wp_seq_k fun K184 hK184 => ?_
    obtain ⟨β15, hβ15⟩ : ∃ b : Bool, b = (icmp .gtr ((ruleP A_s_.node.kind).ch) 0) := ⟨_, rfl⟩
    obtain ⟨β16, hβ16⟩ : ∃ b : Bool, b = (icmp .eql A_s_.node.kind 10) := ⟨_, rfl⟩
    obtain ⟨β17, hβ17⟩ : ∃ b : Bool, b = ((!(ptsK A_s_.node.kind)) || β16) := ⟨_, rfl⟩
    refine region_text (
      [Fact.pure [] (fun v => v = (Pt b25 1)),
    Fact.pure [138] (fun v => v = (Iv ((ruleP A_s_.node.kind).ch))),
    Fact.pure [139] (fun v => v = (Bo β15)),
    Fact.pure [140] (fun v => v = (Bo β15)),
    Fact.pure [141] (fun v => β15 = true → v = (Pt s__b s__o)),
    Fact.pure [142, 141] (fun v => β15 = true → v = (Pt s__b s__o)),
    Fact.pure [143, 141] (fun v => β15 = true → v = (Pt s__b (s__o + 4))),
    Fact.pure [144, 141] (fun v => β15 = true → v = (Pt s__b (s__o + 4))),
    Fact.pure [145, 141] (fun v => β15 = true → v = (Iv A_s_.node.kind)),
    Fact.pure [146, 141] (fun v => β15 = true → v = (Bo (ptsK A_s_.node.kind))),
    Fact.pure [147, 141] (fun v => β15 = true → v = (Bo (!(ptsK A_s_.node.kind)))),
    Fact.pure [148, 141] (fun v => (β15 = true → v = (Bo (!(ptsK A_s_.node.kind)))) ∧ (¬ (β15 = true) → v = undef)),
    Fact.pure [149] (fun v => β15 = true → (!(ptsK A_s_.node.kind)) = false → v = (Pt s__b s__o)),
    Fact.pure [150, 149] (fun v => β15 = true → (!(ptsK A_s_.node.kind)) = false → v = (Pt s__b s__o)),
    Fact.pure [151, 149] (fun v => β15 = true → (!(ptsK A_s_.node.kind)) = false → v = (Pt s__b (s__o + 4))),
    Fact.pure [152, 149] (fun v => β15 = true → (!(ptsK A_s_.node.kind)) = false → v = (Pt s__b (s__o + 4))),
    Fact.pure [153, 149] (fun v => β15 = true → (!(ptsK A_s_.node.kind)) = false → v = (Iv A_s_.node.kind)),
    Fact.pure [154, 149] (fun v => β15 = true → (!(ptsK A_s_.node.kind)) = false → v = (Bo β16)),
    Fact.pure [149, 155, 141] (fun v => β15 = true → v = (Bo β17)),
    Fact.pure [141, 156] (fun v => v = (Bo (β15 && β17)))]) (by simp [Fact.pure, Fact.mem]) ?_
    refine RW_d _ rfl (fun v => by dsimp only [List.set]; try rfl) (fun u hu hF => ?_) (fun v185 => ?_)
    · clear hF
      refine doesG_un rfl ?_
      refine (does_fieldAddr (ev rfl) fa140_1).mono ?_; rintro _ _ ⟨rfl, rfl⟩
      exact ⟨rfl, Ext.refl _⟩
    refine RW_d _ rfl (fun v => by dsimp only [List.set]; try rfl) (fun u hu hF => ?_) (fun v186 => ?_)
    · have h138_ : v185 = (Pt b25 1) := hF.1
      clear hF
      refine doesG_un rfl ?_
      obtain rfl := h138_
      refine (does_load (u := (Iv ((ruleP A_s_.node.kind).ch))) (ev rfl) Try.isAgg3 (Cells.at (Blk.cells (((hB36.ext E42).ext E91).ext hu)) 1 rfl)).mono ?_; rintro _ _ ⟨rfl, rfl⟩
      exact ⟨rfl, Ext.refl _⟩
    refine RW_d _ rfl (fun v => by dsimp only [List.set]; try rfl) (fun u hu hF => ?_) (fun v187 => ?_)
    · have h139_ : v186 = (Iv ((ruleP A_s_.node.kind).ch)) := hF.1
      clear hF
      refine doesG_un rfl ?_
      obtain rfl := h139_
      refine (does_icmp (p := (ruleP A_s_.node.kind).ch) (q := 0) (.inr (.inr (.inr (.inr (.inl rfl))))) (ev rfl) (ev rfl)).mono ?_; rintro _ _ ⟨rfl, rfl⟩
      exact ⟨(by first | rfl | (show _ = _; simp only [hβ15])), Ext.refl _⟩
    refine RW_d _ rfl (fun v => by dsimp only [List.set]; try rfl) (fun u hu hF => ?_) (fun v188 => ?_)
    · have h140_ : v187 = (Bo β15) := hF.1
      clear hF
      refine doesG_un rfl ?_
      obtain rfl := h140_
      refine (does_move (u := (Bo β15)) (ev rfl)).mono ?_; rintro _ _ ⟨rfl, rfl⟩
      exact ⟨rfl, Ext.refl _⟩
    refine RW_d _ rfl (fun v => by dsimp only [List.set]; try rfl) (fun u hu hF => ?_) (fun v189 => ?_)
    · have h141_ : v188 = (Bo β15) := hF.1
      clear hF
      obtain rfl := h141_
      refine doesG_g (b := β15) rfl (yld rfl rfl) (fun hg1 => ?_) (fun hc => ⟨fun hg1 => absurd hg1 hc, Ext.refl _⟩)
      refine (does_move (u := (Pt s__b s__o)) (ev rfl)).mono ?_; rintro _ _ ⟨rfl, rfl⟩
      exact ⟨fun _ => rfl, Ext.refl _⟩
    refine RW_d _ rfl (fun v => by dsimp only [List.set]; try rfl) (fun u hu hF => ?_) (fun v190 => ?_)
    · have h142_ : β15 = true → v189 = (Pt s__b s__o) := hF.1
      have h141_ : v188 = (Bo β15) := hF.2.1
      clear hF
      obtain rfl := h141_
      refine doesG_g (b := β15) rfl (yld rfl rfl) (fun hg1 => ?_) (fun hc => ⟨fun hg1 => absurd hg1 hc, Ext.refl _⟩)
      obtain rfl := h142_ hg1
      refine (does_nilCheck (ev rfl)).mono ?_; rintro _ _ ⟨rfl, rfl⟩
      exact ⟨fun _ => rfl, Ext.refl _⟩
    refine RW_d _ rfl (fun v => by dsimp only [List.set]; try rfl) (fun u hu hF => ?_) (fun v191 => ?_)
    · have h143_ : β15 = true → v190 = (Pt s__b s__o) := hF.1
      have h141_ : v188 = (Bo β15) := hF.2.1
      clear hF
      obtain rfl := h141_
      refine doesG_g (b := β15) rfl (yld rfl rfl) (fun hg1 => ?_) (fun hc => ⟨fun hg1 => absurd hg1 hc, Ext.refl _⟩)
      obtain rfl := h143_ hg1
      refine (does_fieldAddr (ev rfl) fa100_4).mono ?_; rintro _ _ ⟨rfl, rfl⟩
      exact ⟨fun _ => rfl, Ext.refl _⟩
    refine RW_d _ rfl (fun v => by dsimp only [List.set]; try rfl) (fun u hu hF => ?_) (fun v192 => ?_)
    · have h144_ : β15 = true → v191 = (Pt s__b (s__o + 4)) := hF.1
      have h141_ : v188 = (Bo β15) := hF.2.1
      clear hF
      obtain rfl := h141_
      refine doesG_g (b := β15) rfl (yld rfl rfl) (fun hg1 => ?_) (fun hc => ⟨fun hg1 => absurd hg1 hc, Ext.refl _⟩)
      obtain rfl := h144_ hg1
      refine (does_fieldAddr (ev rfl) fa27_0).mono ?_; rintro _ _ ⟨rfl, rfl⟩
      exact ⟨fun _ => rfl, Ext.refl _⟩
    refine RW_d _ rfl (fun v => by dsimp only [List.set]; try rfl) (fun u hu hF => ?_) (fun v193 => ?_)
    · have h145_ : β15 = true → v192 = (Pt s__b (s__o + 4)) := hF.1
      have h141_ : v188 = (Bo β15) := hF.2.1
      clear hF
      obtain rfl := h141_
      refine doesG_g (b := β15) rfl (yld rfl rfl) (fun hg1 => ?_) (fun hc => ⟨fun hg1 => absurd hg1 hc, Ext.refl _⟩)
      obtain rfl := h145_ hg1
      refine (does_load (u := (Iv A_s_.node.kind)) (ev rfl) Try.isAgg2 (Cells.at ((hc_s_.ext X94).ext hu) 4 rfl)).mono ?_; rintro _ _ ⟨rfl, rfl⟩
      exact ⟨fun _ => rfl, Ext.refl _⟩
    refine RW_d _ rfl (fun v => by dsimp only [List.set]; try rfl) (fun u hu hF => ?_) (fun v194 => ?_)
    · have h146_ : β15 = true → v193 = (Iv A_s_.node.kind) := hF.1
      have h141_ : v188 = (Bo β15) := hF.2.1
      clear hF
      obtain rfl := h141_
      refine doesG_g (b := β15) rfl (yld rfl rfl) (fun hg1 => ?_) (fun hc => ⟨fun hg1 => absurd hg1 hc, Ext.refl _⟩)
      obtain rfl := h146_ hg1
      refine (does_call (args := #[(Iv A_s_.node.kind)]) cal101 (evs rfl) (c_impl_points A_s_.node.kind _)).mono ?_; rintro v u' ⟨hx, hv⟩
      exact ⟨fun _ => hv, hx⟩
    refine RW_d _ rfl (fun v => by dsimp only [List.set]; try rfl) (fun u hu hF => ?_) (fun v195 => ?_)
    · have h147_ : β15 = true → v194 = (Bo (ptsK A_s_.node.kind)) := hF.1
      have h141_ : v188 = (Bo β15) := hF.2.1
      clear hF
      obtain rfl := h141_
      refine doesG_g (b := β15) rfl (yld rfl rfl) (fun hg1 => ?_) (fun hc => ⟨fun hg1 => absurd hg1 hc, Ext.refl _⟩)
      obtain rfl := h147_ hg1
      refine (does_not (ev rfl)).mono ?_; rintro _ _ ⟨rfl, rfl⟩
      exact ⟨fun _ => rfl, Ext.refl _⟩
    refine RW_d _ rfl (fun v => by dsimp only [List.set]; try rfl) (fun u hu hF => ?_) (fun v196 => ?_)
    · have h148_ : β15 = true → v195 = (Bo (!(ptsK A_s_.node.kind))) := hF.1
      have h141_ : v188 = (Bo β15) := hF.2.1
      clear hF
      obtain rfl := h141_
      refine doesG_g (b := β15) rfl (yld rfl rfl) (fun hg1 => ?_) (fun hc => ⟨⟨fun hg1 => absurd hg1 hc, fun _ => rfl⟩, Ext.refl _⟩)
      obtain rfl := h148_ hg1
      refine (does_move (u := (Bo (!(ptsK A_s_.node.kind)))) (ev rfl)).mono ?_; rintro _ _ ⟨rfl, rfl⟩
      exact ⟨⟨fun _ => rfl, fun hn => absurd hg1 hn⟩, Ext.refl _⟩
    refine RW_d _ rfl (fun v => by dsimp only [List.set]; try rfl) (fun u hu hF => ?_) (fun v197 => ?_)
    · have h149_ : (β15 = true → v196 = (Bo (!(ptsK A_s_.node.kind)))) ∧ (¬ (β15 = true) → v196 = undef) := hF.1; have h149u := h149_.2; replace h149_ := h149_.1
      clear hF
      refine doesG_gg (b := (!(ptsK A_s_.node.kind))) (c := β15 = true) rfl (fun hc => ?_) (fun hc => ?_) (fun hc hg2 => ?_) (fun hc => ⟨fun hg1 hg2 => absurd ⟨hg1, hg2⟩ hc, Ext.refl _⟩)
      · have hg1 := hc; obtain rfl := h149_ hg1; exact yld rfl rfl
      · obtain rfl := h149u hc; exact yldn rfl rfl
      have hg1 := hc
      obtain rfl := h149_ hg1
      refine (does_move (u := (Pt s__b s__o)) (ev rfl)).mono ?_; rintro _ _ ⟨rfl, rfl⟩
      exact ⟨fun _ _ => rfl, Ext.refl _⟩
    refine RW_d _ rfl (fun v => by dsimp only [List.set]; try rfl) (fun u hu hF => ?_) (fun v198 => ?_)
    · have h150_ : β15 = true → (!(ptsK A_s_.node.kind)) = false → v197 = (Pt s__b s__o) := hF.1
      have h149_ : (β15 = true → v196 = (Bo (!(ptsK A_s_.node.kind)))) ∧ (¬ (β15 = true) → v196 = undef) := hF.2.1; have h149u := h149_.2; replace h149_ := h149_.1
      clear hF
      refine doesG_gg (b := (!(ptsK A_s_.node.kind))) (c := β15 = true) rfl (fun hc => ?_) (fun hc => ?_) (fun hc hg2 => ?_) (fun hc => ⟨fun hg1 hg2 => absurd ⟨hg1, hg2⟩ hc, Ext.refl _⟩)
      · have hg1 := hc; obtain rfl := h149_ hg1; exact yld rfl rfl
      · obtain rfl := h149u hc; exact yldn rfl rfl
      have hg1 := hc
      obtain rfl := h149_ hg1
      obtain rfl := h150_ hg1 hg2
      refine (does_nilCheck (ev rfl)).mono ?_; rintro _ _ ⟨rfl, rfl⟩
      exact ⟨fun _ _ => rfl, Ext.refl _⟩
    refine RW_d _ rfl (fun v => by dsimp only [List.set]; try rfl) (fun u hu hF => ?_) (fun v199 => ?_)
    · have h151_ : β15 = true → (!(ptsK A_s_.node.kind)) = false → v198 = (Pt s__b s__o) := hF.1
      have h149_ : (β15 = true → v196 = (Bo (!(ptsK A_s_.node.kind)))) ∧ (¬ (β15 = true) → v196 = undef) := hF.2.1; have h149u := h149_.2; replace h149_ := h149_.1
      clear hF
      refine doesG_gg (b := (!(ptsK A_s_.node.kind))) (c := β15 = true) rfl (fun hc => ?_) (fun hc => ?_) (fun hc hg2 => ?_) (fun hc => ⟨fun hg1 hg2 => absurd ⟨hg1, hg2⟩ hc, Ext.refl _⟩)
      · have hg1 := hc; obtain rfl := h149_ hg1; exact yld rfl rfl
      · obtain rfl := h149u hc; exact yldn rfl rfl
      have hg1 := hc
      obtain rfl := h149_ hg1
      obtain rfl := h151_ hg1 hg2
      refine (does_fieldAddr (ev rfl) fa100_4).mono ?_; rintro _ _ ⟨rfl, rfl⟩
      exact ⟨fun _ _ => rfl, Ext.refl _⟩
    refine RW_d _ rfl (fun v => by dsimp only [List.set]; try rfl) (fun u hu hF => ?_) (fun v200 => ?_)
    · have h152_ : β15 = true → (!(ptsK A_s_.node.kind)) = false → v199 = (Pt s__b (s__o + 4)) := hF.1
      have h149_ : (β15 = true → v196 = (Bo (!(ptsK A_s_.node.kind)))) ∧ (¬ (β15 = true) → v196 = undef) := hF.2.1; have h149u := h149_.2; replace h149_ := h149_.1
      clear hF
      refine doesG_gg (b := (!(ptsK A_s_.node.kind))) (c := β15 = true) rfl (fun hc => ?_) (fun hc => ?_) (fun hc hg2 => ?_) (fun hc => ⟨fun hg1 hg2 => absurd ⟨hg1, hg2⟩ hc, Ext.refl _⟩)
      · have hg1 := hc; obtain rfl := h149_ hg1; exact yld rfl rfl
      · obtain rfl := h149u hc; exact yldn rfl rfl
      have hg1 := hc
      obtain rfl := h149_ hg1
      obtain rfl := h152_ hg1 hg2
      refine (does_fieldAddr (ev rfl) fa27_0).mono ?_; rintro _ _ ⟨rfl, rfl⟩
      exact ⟨fun _ _ => rfl, Ext.refl _⟩
    refine RW_d _ rfl (fun v => by dsimp only [List.set]; try rfl) (fun u hu hF => ?_) (fun v201 => ?_)
    · have h153_ : β15 = true → (!(ptsK A_s_.node.kind)) = false → v200 = (Pt s__b (s__o + 4)) := hF.1
      have h149_ : (β15 = true → v196 = (Bo (!(ptsK A_s_.node.kind)))) ∧ (¬ (β15 = true) → v196 = undef) := hF.2.1; have h149u := h149_.2; replace h149_ := h149_.1
      clear hF
      refine doesG_gg (b := (!(ptsK A_s_.node.kind))) (c := β15 = true) rfl (fun hc => ?_) (fun hc => ?_) (fun hc hg2 => ?_) (fun hc => ⟨fun hg1 hg2 => absurd ⟨hg1, hg2⟩ hc, Ext.refl _⟩)
      · have hg1 := hc; obtain rfl := h149_ hg1; exact yld rfl rfl
      · obtain rfl := h149u hc; exact yldn rfl rfl
      have hg1 := hc
      obtain rfl := h149_ hg1
      obtain rfl := h153_ hg1 hg2
      refine (does_load (u := (Iv A_s_.node.kind)) (ev rfl) Try.isAgg2 (Cells.at ((hc_s_.ext X94).ext hu) 4 rfl)).mono ?_; rintro _ _ ⟨rfl, rfl⟩
      exact ⟨fun _ _ => rfl, Ext.refl _⟩
    refine RW_d _ rfl (fun v => by dsimp only [List.set]; try rfl) (fun u hu hF => ?_) (fun v202 => ?_)
    · have h154_ : β15 = true → (!(ptsK A_s_.node.kind)) = false → v201 = (Iv A_s_.node.kind) := hF.1
      have h149_ : (β15 = true → v196 = (Bo (!(ptsK A_s_.node.kind)))) ∧ (¬ (β15 = true) → v196 = undef) := hF.2.1; have h149u := h149_.2; replace h149_ := h149_.1
      clear hF
      refine doesG_gg (b := (!(ptsK A_s_.node.kind))) (c := β15 = true) rfl (fun hc => ?_) (fun hc => ?_) (fun hc hg2 => ?_) (fun hc => ⟨fun hg1 hg2 => absurd ⟨hg1, hg2⟩ hc, Ext.refl _⟩)
      · have hg1 := hc; obtain rfl := h149_ hg1; exact yld rfl rfl
      · obtain rfl := h149u hc; exact yldn rfl rfl
      have hg1 := hc
      obtain rfl := h149_ hg1
      obtain rfl := h154_ hg1 hg2
      refine (does_icmp (p := A_s_.node.kind) (q := 10) (.inl rfl) (ev rfl) (ev rfl)).mono ?_; rintro _ _ ⟨rfl, rfl⟩
      exact ⟨fun _ _ => (by first | rfl | (show _ = _; simp only [hβ16])), Ext.refl _⟩
    refine RW_d _ rfl (fun v => by dsimp only [List.set]; try rfl) (fun u hu hF => ?_) (fun v203 => ?_)
    · have h149_ : (β15 = true → v196 = (Bo (!(ptsK A_s_.node.kind)))) ∧ (¬ (β15 = true) → v196 = undef) := hF.1; have h149u := h149_.2; replace h149_ := h149_.1
      have h155_ : β15 = true → (!(ptsK A_s_.node.kind)) = false → v202 = (Bo β16) := hF.2.1
      have h141_ : v188 = (Bo β15) := hF.2.2.1
      clear hF
      obtain rfl := h141_
      refine doesG_g (b := β15) rfl (yld rfl rfl) (fun hg1 => ?_) (fun hc => ⟨fun hg1 => absurd hg1 hc, Ext.refl _⟩)
      skip
      obtain rfl := h149_ hg1
      replace h155_ := h155_ hg1
      refine (does_pick (b := (!(ptsK A_s_.node.kind))) (ev rfl) (ev rfl) (ev rfl)).mono ?_; rintro _ _ ⟨rfl, rfl⟩; refine ⟨fun _ => ?_, Ext.refl _⟩; rw [hβ17]; skip
      cases hbb : (!(ptsK A_s_.node.kind)) <;> simp [hbb] at h155_ ⊢
      all_goals (first | rfl | (subst h155_; rfl) | simp_all)
    refine RW_d _ rfl (fun v => by dsimp only [List.set]; try rfl) (fun u hu hF => ?_) (fun v204 => ?_)
    · have h141_ : v188 = (Bo β15) := hF.1
      have h156_ : β15 = true → v203 = (Bo β17) := hF.2.1
      clear hF
      refine doesG_un rfl ?_
      skip
      obtain rfl := h141_
      refine (does_pick (b := β15) (ev rfl) (ev rfl) (ev rfl)).mono ?_; rintro _ _ ⟨rfl, rfl⟩; refine ⟨?_, Ext.refl _⟩; skip
      cases hbb : β15 <;> simp [hbb] at h156_ ⊢
      all_goals (first | rfl | (subst h156_; rfl) | simp_all)
    refine RW_fin ?_; intro w205 E206 hP207
    obtain ⟨⟨⟨⟨⟨⟨⟨⟨⟨⟨⟨⟨⟨⟨⟨⟨⟨⟨⟨⟨-, -⟩, -⟩, -⟩, -⟩, -⟩, -⟩, -⟩, -⟩, -⟩, -⟩, -⟩, -⟩, -⟩, -⟩, -⟩, -⟩, -⟩, -⟩, -⟩, q208⟩ := hP207
    have X209 := Ext.gr X94 E206
    have q208 : v204 = (Bo (β15 && β17)) := q208
    obtain rfl := q208
    show wpList _ _ _ _ (fr [(Pt s__b s__o), (Pt p_b p_o), Ud, (Pt b12 0), (Bo false), (Pt b25 0), (Bo (rlOk A_s_.node.kind)), (.func (.func 99) #[] #[(Pt b12 0)]), (.func (.func 100) #[] #[(Pt b12 0)]), Ud, (.tuple #[(.agg #[(Iv ((ruleP A_s_.node.kind).num)), (Iv ((ruleP A_s_.node.kind).ch)), (Bo ((ruleP A_s_.node.kind).ax)), (Iv ((ruleP A_s_.node.kind).sg))]), (Bo (rlOk A_s_.node.kind))]), (Pt s__b s__o), (Pt s__b s__o), (Pt s__b (s__o + 4)), (Pt s__b (s__o + 4)), (Iv A_s_.node.kind), (.tuple #[(.agg #[(Iv ((ruleP A_s_.node.kind).num)), (Iv ((ruleP A_s_.node.kind).ch)), (Bo ((ruleP A_s_.node.kind).ax)), (Iv ((ruleP A_s_.node.kind).sg))]), (Bo (rlOk A_s_.node.kind))]), (.agg #[(Iv ((ruleP A_s_.node.kind).num)), (Iv ((ruleP A_s_.node.kind).ch)), (Bo ((ruleP A_s_.node.kind).ax)), (Iv ((ruleP A_s_.node.kind).sg))]), (Bo (rlOk A_s_.node.kind)), v45, v46, v47, v48, v49, v50, v51, v52, v53, v54, v55, v56, v57, v58, v59, v60, v61, v62, v63, v64, v65, v66, v67, v68, v69, v70, v71, v72, v73, v74, v75, v76, v77, v78, v79, v80, v81, v82, v83, v84, v85, v86, v87, v88, (Bo (β3 || β6)), (.func (.func 99) #[] #[(Pt b12 0)]), (.func (.func 100) #[] #[(Pt b12 0)]), (Pt s__b s__o), (Pt s__b s__o), (Pt s__b s__o), (Iv A_s_.kind), (Bo (icmp .eql A_s_.kind 0)), (Bo (icmp .eql A_s_.kind 0)), Ud, Ud, Ud, Ud, Ud, Ud, Ud, Ud, Ud, Ud, Ud, Ud, Ud, Ud, Ud, Ud, Ud, Ud, Ud, Ud, Ud, Ud, Ud, Ud, Ud, Ud, Ud, Ud, Ud, Ud, Ud, Ud, Ud, Ud, Ud, Ud, (Bo (icmp .eql A_s_.kind 1)), (Bo (icmp .eql A_s_.kind 1)), Ud, Ud, Ud, Ud, Ud, Ud, Ud, Ud, Ud, Ud, Ud, Ud, Ud, Ud, Ud, Ud, Ud, Ud, Ud, Ud, Ud, Ud, Ud, Ud, Ud, Ud, (Bo (icmp .eql A_s_.kind 2)), (Bo (icmp .eql A_s_.kind 2)), v185, v186, v187, v188, v189, v190, v191, v192, v193, v194, v195, v196, v197, v198, v199, v200, v201, v202, v203, (Bo (β15 && β17)), Ud, Ud, Ud, Ud, Ud, Ud, Ud, Ud, Ud, Ud, Ud, Ud, Ud, Ud, Ud, Ud, Ud, Ud, Ud, Ud, Ud, Ud, Ud, Ud, Ud, Ud, Ud, Ud, Ud, Ud, Ud, Ud, Ud, Ud, Ud, Ud, Ud]) _
    refine q_is rfl rfl (does_assign (u := (Bo (β15 && β17))) (ev rfl)) (by dsimp only [List.set]; try rfl) ?_
    refine wpList_nil (hK184 _ _ ?_)
    refine wp_seq_k fun K210 hK210 => ?_
    obtain ⟨β18, hβ18⟩ : ∃ b : Bool, b = (inI A_s_.to 0 (IntKind.i64.wrap (A_p.values - 1))) := ⟨_, rfl⟩
    obtain ⟨β19, hβ19⟩ : ∃ b : Bool, b = (inI A_s_.a 0 (IntKind.i64.wrap (A_p.values - 1))) := ⟨_, rfl⟩
    obtain ⟨β20, hβ20⟩ : ∃ b : Bool, b = (((β15 && β17) && β18) && β19) := ⟨_, rfl⟩
    obtain ⟨β21, hβ21⟩ : ∃ b : Bool, b = (icmp .eql ((ruleP A_s_.node.kind).ch) 2) := ⟨_, rfl⟩
    obtain ⟨β22, hβ22⟩ : ∃ b : Bool, b = (inI A_s_.b 0 (IntKind.i64.wrap (A_p.values - 1))) := ⟨_, rfl⟩
    obtain ⟨β23, hβ23⟩ : ∃ b : Bool, b = ((icmp .eql A_s_.b 0) || (β21 && β22)) := ⟨_, rfl⟩
    refine region_text (
      [Fact.pure [] (fun v => v = (Bo (β15 && β17))),
    Fact.pure [158] (fun v => v = (Bo (β15 && β17))),
    Fact.pure [159] (fun v => (β15 && β17) = true → v = (.func (.func 100) #[] #[(Pt b12 0)])),
    Fact.pure [159] (fun v => (β15 && β17) = true → v = (Pt s__b s__o)),
    Fact.pure [161, 159] (fun v => (β15 && β17) = true → v = (Pt s__b s__o)),
    Fact.pure [162, 159] (fun v => (β15 && β17) = true → v = (Pt s__b (s__o + 1))),
    Fact.pure [163, 159] (fun v => (β15 && β17) = true → v = (Iv A_s_.to)),
    Fact.pure [164, 160, 159] (fun v => (β15 && β17) = true → v = (Bo β18)),
    Fact.pure [159, 165] (fun v => v = (Bo ((β15 && β17) && β18))),
    Fact.pure [166] (fun v => v = (Bo ((β15 && β17) && β18))),
    Fact.pure [167] (fun v => ((β15 && β17) && β18) = true → v = (.func (.func 100) #[] #[(Pt b12 0)])),
    Fact.pure [167] (fun v => ((β15 && β17) && β18) = true → v = (Pt s__b s__o)),
    Fact.pure [169, 167] (fun v => ((β15 && β17) && β18) = true → v = (Pt s__b s__o)),
    Fact.pure [170, 167] (fun v => ((β15 && β17) && β18) = true → v = (Pt s__b (s__o + 2))),
    Fact.pure [171, 167] (fun v => ((β15 && β17) && β18) = true → v = (Iv A_s_.a)),
    Fact.pure [172, 168, 167] (fun v => ((β15 && β17) && β18) = true → v = (Bo β19)),
    Fact.pure [167, 173] (fun v => v = (Bo β20)),
    Fact.pure [174] (fun v => v = (Bo β20)),
    Fact.pure [175] (fun v => β20 = true → v = (Pt s__b s__o)),
    Fact.pure [176, 175] (fun v => β20 = true → v = (Pt s__b s__o)),
    Fact.pure [177, 175] (fun v => β20 = true → v = (Pt s__b (s__o + 3))),
    Fact.pure [178, 175] (fun v => β20 = true → v = (Iv A_s_.b)),
    Fact.pure [179, 175] (fun v => β20 = true → v = (Bo (icmp .eql A_s_.b 0))),
    Fact.pure [180, 175] (fun v => (β20 = true → v = (Bo (icmp .eql A_s_.b 0))) ∧ (¬ (β20 = true) → v = undef)),
    Fact.pure [181] (fun v => β20 = true → (icmp .eql A_s_.b 0) = false → v = (Pt b25 1)),
    Fact.pure [182, 181] (fun v => β20 = true → (icmp .eql A_s_.b 0) = false → v = (Iv ((ruleP A_s_.node.kind).ch))),
    Fact.pure [183, 181] (fun v => β20 = true → (icmp .eql A_s_.b 0) = false → v = (Bo β21)),
    Fact.pure [184, 181] (fun v => (β20 = true → (icmp .eql A_s_.b 0) = false → v = (Bo β21)) ∧ (¬ (β20 = true ∧ (icmp .eql A_s_.b 0) = false) → v = undef)),
    Fact.pure [185] (fun v => β20 = true → (icmp .eql A_s_.b 0) = false → β21 = true → v = (.func (.func 100) #[] #[(Pt b12 0)])),
    Fact.pure [185] (fun v => β20 = true → (icmp .eql A_s_.b 0) = false → β21 = true → v = (Pt s__b s__o)),
    Fact.pure [187, 185] (fun v => β20 = true → (icmp .eql A_s_.b 0) = false → β21 = true → v = (Pt s__b s__o)),
    Fact.pure [188, 185] (fun v => β20 = true → (icmp .eql A_s_.b 0) = false → β21 = true → v = (Pt s__b (s__o + 3))),
    Fact.pure [189, 185] (fun v => β20 = true → (icmp .eql A_s_.b 0) = false → β21 = true → v = (Iv A_s_.b)),
    Fact.pure [190, 186, 185] (fun v => β20 = true → (icmp .eql A_s_.b 0) = false → β21 = true → v = (Bo β22)),
    Fact.pure [185, 191, 181] (fun v => β20 = true → (icmp .eql A_s_.b 0) = false → v = (Bo (β21 && β22))),
    Fact.pure [181, 192, 175] (fun v => β20 = true → v = (Bo β23)),
    Fact.pure [175, 193] (fun v => v = (Bo (β20 && β23)))]) (by simp [Fact.pure, Fact.mem]) ?_
    refine RW_d _ rfl (fun v => by dsimp only [List.set]; try rfl) (fun u hu hF => ?_) (fun v211 => ?_)
    · clear hF
      refine doesG_un rfl ?_
      refine (does_move (u := (Bo (β15 && β17))) (ev rfl)).mono ?_; rintro _ _ ⟨rfl, rfl⟩
      exact ⟨rfl, Ext.refl _⟩
    refine RW_d _ rfl (fun v => by dsimp only [List.set]; try rfl) (fun u hu hF => ?_) (fun v212 => ?_)
    · have h158_ : v211 = (Bo (β15 && β17)) := hF.1
      clear hF
      refine doesG_un rfl ?_
      obtain rfl := h158_
      refine (does_move (u := (Bo (β15 && β17))) (ev rfl)).mono ?_; rintro _ _ ⟨rfl, rfl⟩
      exact ⟨rfl, Ext.refl _⟩
    refine RW_d _ rfl (fun v => by dsimp only [List.set]; try rfl) (fun u hu hF => ?_) (fun v213 => ?_)
    · have h159_ : v212 = (Bo (β15 && β17)) := hF.1
      clear hF
      obtain rfl := h159_
      refine doesG_g (b := (β15 && β17)) rfl (yld rfl rfl) (fun hg1 => ?_) (fun hc => ⟨fun hg1 => absurd hg1 hc, Ext.refl _⟩)
      refine (does_move (u := (.func (.func 100) #[] #[(Pt b12 0)])) (ev rfl)).mono ?_; rintro _ _ ⟨rfl, rfl⟩
      exact ⟨fun _ => rfl, Ext.refl _⟩
    refine RW_d _ rfl (fun v => by dsimp only [List.set]; try rfl) (fun u hu hF => ?_) (fun v214 => ?_)
    · have h159_ : v212 = (Bo (β15 && β17)) := hF.1
      clear hF
      obtain rfl := h159_
      refine doesG_g (b := (β15 && β17)) rfl (yld rfl rfl) (fun hg1 => ?_) (fun hc => ⟨fun hg1 => absurd hg1 hc, Ext.refl _⟩)
      refine (does_move (u := (Pt s__b s__o)) (ev rfl)).mono ?_; rintro _ _ ⟨rfl, rfl⟩
      exact ⟨fun _ => rfl, Ext.refl _⟩
    refine RW_d _ rfl (fun v => by dsimp only [List.set]; try rfl) (fun u hu hF => ?_) (fun v215 => ?_)
    · have h161_ : (β15 && β17) = true → v214 = (Pt s__b s__o) := hF.1
      have h159_ : v212 = (Bo (β15 && β17)) := hF.2.1
      clear hF
      obtain rfl := h159_
      refine doesG_g (b := (β15 && β17)) rfl (yld rfl rfl) (fun hg1 => ?_) (fun hc => ⟨fun hg1 => absurd hg1 hc, Ext.refl _⟩)
      obtain rfl := h161_ hg1
      refine (does_nilCheck (ev rfl)).mono ?_; rintro _ _ ⟨rfl, rfl⟩
      exact ⟨fun _ => rfl, Ext.refl _⟩
    refine RW_d _ rfl (fun v => by dsimp only [List.set]; try rfl) (fun u hu hF => ?_) (fun v216 => ?_)
    · have h162_ : (β15 && β17) = true → v215 = (Pt s__b s__o) := hF.1
      have h159_ : v212 = (Bo (β15 && β17)) := hF.2.1
      clear hF
      obtain rfl := h159_
      refine doesG_g (b := (β15 && β17)) rfl (yld rfl rfl) (fun hg1 => ?_) (fun hc => ⟨fun hg1 => absurd hg1 hc, Ext.refl _⟩)
      obtain rfl := h162_ hg1
      refine (does_fieldAddr (ev rfl) fa100_1).mono ?_; rintro _ _ ⟨rfl, rfl⟩
      exact ⟨fun _ => rfl, Ext.refl _⟩
    refine RW_d _ rfl (fun v => by dsimp only [List.set]; try rfl) (fun u hu hF => ?_) (fun v217 => ?_)
    · have h163_ : (β15 && β17) = true → v216 = (Pt s__b (s__o + 1)) := hF.1
      have h159_ : v212 = (Bo (β15 && β17)) := hF.2.1
      clear hF
      obtain rfl := h159_
      refine doesG_g (b := (β15 && β17)) rfl (yld rfl rfl) (fun hg1 => ?_) (fun hc => ⟨fun hg1 => absurd hg1 hc, Ext.refl _⟩)
      obtain rfl := h163_ hg1
      refine (does_load (u := (Iv A_s_.to)) (ev rfl) Try.isAgg2 (Cells.at ((hc_s_.ext X209).ext hu) 1 rfl)).mono ?_; rintro _ _ ⟨rfl, rfl⟩
      exact ⟨fun _ => rfl, Ext.refl _⟩
    refine RW_d _ rfl (fun v => by dsimp only [List.set]; try rfl) (fun u hu hF => ?_) (fun v218 => ?_)
    · have h164_ : (β15 && β17) = true → v217 = (Iv A_s_.to) := hF.1
      have h160_ : (β15 && β17) = true → v213 = (.func (.func 100) #[] #[(Pt b12 0)]) := hF.2.1
      have h159_ : v212 = (Bo (β15 && β17)) := hF.2.2.1
      clear hF
      obtain rfl := h159_
      refine doesG_g (b := (β15 && β17)) rfl (yld rfl rfl) (fun hg1 => ?_) (fun hc => ⟨fun hg1 => absurd hg1 hc, Ext.refl _⟩)
      obtain rfl := h164_ hg1
      obtain rfl := h160_ hg1
      refine (does_callv (fst := #[]) (args := #[(Iv A_s_.to)]) (cap := #[(Pt b12 0)]) (all := #[(Iv A_s_.to), (Pt b12 0)]) (ev rfl) cal100 (evs rfl) rfl (c_impl_Step_ok_2 A_s_.to b12 0 p_b p_o [(Iv A_p.points), (Iv A_p.values), (.slice p8 A_p.steps.length q9)] A_p _ ((hc_p.ext X209).ext hu) ⟨(.slice p8 A_p.steps.length q9), rfl, (Sl.ext (Sl.ext hs10 RStepT.mono X209) RStepT.mono hu)⟩ (Blk.cells (((((((hB14.ext E22).ext E28).wr W35 (Nat.ne_of_lt n32)).ext E42).ext E91).ext E206).ext hu)))).mono ?_; rintro v u' ⟨hx, hv⟩
      exact ⟨fun _ => hv.trans (by simp only [hβ18]), hx⟩
    refine RW_d _ rfl (fun v => by dsimp only [List.set]; try rfl) (fun u hu hF => ?_) (fun v219 => ?_)
    · have h159_ : v212 = (Bo (β15 && β17)) := hF.1
      have h165_ : (β15 && β17) = true → v218 = (Bo β18) := hF.2.1
      clear hF
      refine doesG_un rfl ?_
      skip
      obtain rfl := h159_
      refine (does_pick (b := (β15 && β17)) (ev rfl) (ev rfl) (ev rfl)).mono ?_; rintro _ _ ⟨rfl, rfl⟩; refine ⟨?_, Ext.refl _⟩; skip
      cases hbb : (β15 && β17) <;> simp [hbb] at h165_ ⊢
      all_goals (first | rfl | (subst h165_; rfl) | simp_all)
    refine RW_d _ rfl (fun v => by dsimp only [List.set]; try rfl) (fun u hu hF => ?_) (fun v220 => ?_)
    · have h166_ : v219 = (Bo ((β15 && β17) && β18)) := hF.1
      clear hF
      refine doesG_un rfl ?_
      obtain rfl := h166_
      refine (does_move (u := (Bo ((β15 && β17) && β18))) (ev rfl)).mono ?_; rintro _ _ ⟨rfl, rfl⟩
      exact ⟨rfl, Ext.refl _⟩
    refine RW_d _ rfl (fun v => by dsimp only [List.set]; try rfl) (fun u hu hF => ?_) (fun v221 => ?_)
    · have h167_ : v220 = (Bo ((β15 && β17) && β18)) := hF.1
      clear hF
      obtain rfl := h167_
      refine doesG_g (b := ((β15 && β17) && β18)) rfl (yld rfl rfl) (fun hg1 => ?_) (fun hc => ⟨fun hg1 => absurd hg1 hc, Ext.refl _⟩)
      refine (does_move (u := (.func (.func 100) #[] #[(Pt b12 0)])) (ev rfl)).mono ?_; rintro _ _ ⟨rfl, rfl⟩
      exact ⟨fun _ => rfl, Ext.refl _⟩
    refine RW_d _ rfl (fun v => by dsimp only [List.set]; try rfl) (fun u hu hF => ?_) (fun v222 => ?_)
    · have h167_ : v220 = (Bo ((β15 && β17) && β18)) := hF.1
      clear hF
      obtain rfl := h167_
      refine doesG_g (b := ((β15 && β17) && β18)) rfl (yld rfl rfl) (fun hg1 => ?_) (fun hc => ⟨fun hg1 => absurd hg1 hc, Ext.refl _⟩)
      refine (does_move (u := (Pt s__b s__o)) (ev rfl)).mono ?_; rintro _ _ ⟨rfl, rfl⟩
      exact ⟨fun _ => rfl, Ext.refl _⟩
    refine RW_d _ rfl (fun v => by dsimp only [List.set]; try rfl) (fun u hu hF => ?_) (fun v223 => ?_)
    · have h169_ : ((β15 && β17) && β18) = true → v222 = (Pt s__b s__o) := hF.1
      have h167_ : v220 = (Bo ((β15 && β17) && β18)) := hF.2.1
      clear hF
      obtain rfl := h167_
      refine doesG_g (b := ((β15 && β17) && β18)) rfl (yld rfl rfl) (fun hg1 => ?_) (fun hc => ⟨fun hg1 => absurd hg1 hc, Ext.refl _⟩)
      obtain rfl := h169_ hg1
      refine (does_nilCheck (ev rfl)).mono ?_; rintro _ _ ⟨rfl, rfl⟩
      exact ⟨fun _ => rfl, Ext.refl _⟩
    refine RW_d _ rfl (fun v => by dsimp only [List.set]; try rfl) (fun u hu hF => ?_) (fun v224 => ?_)
    · have h170_ : ((β15 && β17) && β18) = true → v223 = (Pt s__b s__o) := hF.1
      have h167_ : v220 = (Bo ((β15 && β17) && β18)) := hF.2.1
      clear hF
      obtain rfl := h167_
      refine doesG_g (b := ((β15 && β17) && β18)) rfl (yld rfl rfl) (fun hg1 => ?_) (fun hc => ⟨fun hg1 => absurd hg1 hc, Ext.refl _⟩)
      obtain rfl := h170_ hg1
      refine (does_fieldAddr (ev rfl) fa100_2).mono ?_; rintro _ _ ⟨rfl, rfl⟩
      exact ⟨fun _ => rfl, Ext.refl _⟩
    refine RW_d _ rfl (fun v => by dsimp only [List.set]; try rfl) (fun u hu hF => ?_) (fun v225 => ?_)
    · have h171_ : ((β15 && β17) && β18) = true → v224 = (Pt s__b (s__o + 2)) := hF.1
      have h167_ : v220 = (Bo ((β15 && β17) && β18)) := hF.2.1
      clear hF
      obtain rfl := h167_
      refine doesG_g (b := ((β15 && β17) && β18)) rfl (yld rfl rfl) (fun hg1 => ?_) (fun hc => ⟨fun hg1 => absurd hg1 hc, Ext.refl _⟩)
      obtain rfl := h171_ hg1
      refine (does_load (u := (Iv A_s_.a)) (ev rfl) Try.isAgg2 (Cells.at ((hc_s_.ext X209).ext hu) 2 rfl)).mono ?_; rintro _ _ ⟨rfl, rfl⟩
      exact ⟨fun _ => rfl, Ext.refl _⟩
    refine RW_d _ rfl (fun v => by dsimp only [List.set]; try rfl) (fun u hu hF => ?_) (fun v226 => ?_)
    · have h172_ : ((β15 && β17) && β18) = true → v225 = (Iv A_s_.a) := hF.1
      have h168_ : ((β15 && β17) && β18) = true → v221 = (.func (.func 100) #[] #[(Pt b12 0)]) := hF.2.1
      have h167_ : v220 = (Bo ((β15 && β17) && β18)) := hF.2.2.1
      clear hF
      obtain rfl := h167_
      refine doesG_g (b := ((β15 && β17) && β18)) rfl (yld rfl rfl) (fun hg1 => ?_) (fun hc => ⟨fun hg1 => absurd hg1 hc, Ext.refl _⟩)
      obtain rfl := h172_ hg1
      obtain rfl := h168_ hg1
      refine (does_callv (fst := #[]) (args := #[(Iv A_s_.a)]) (cap := #[(Pt b12 0)]) (all := #[(Iv A_s_.a), (Pt b12 0)]) (ev rfl) cal100 (evs rfl) rfl (c_impl_Step_ok_2 A_s_.a b12 0 p_b p_o [(Iv A_p.points), (Iv A_p.values), (.slice p8 A_p.steps.length q9)] A_p _ ((hc_p.ext X209).ext hu) ⟨(.slice p8 A_p.steps.length q9), rfl, (Sl.ext (Sl.ext hs10 RStepT.mono X209) RStepT.mono hu)⟩ (Blk.cells (((((((hB14.ext E22).ext E28).wr W35 (Nat.ne_of_lt n32)).ext E42).ext E91).ext E206).ext hu)))).mono ?_; rintro v u' ⟨hx, hv⟩
      exact ⟨fun _ => hv.trans (by simp only [hβ19]), hx⟩
    refine RW_d _ rfl (fun v => by dsimp only [List.set]; try rfl) (fun u hu hF => ?_) (fun v227 => ?_)
    · have h167_ : v220 = (Bo ((β15 && β17) && β18)) := hF.1
      have h173_ : ((β15 && β17) && β18) = true → v226 = (Bo β19) := hF.2.1
      clear hF
      refine doesG_un rfl ?_
      skip
      obtain rfl := h167_
      refine (does_pick (b := ((β15 && β17) && β18)) (ev rfl) (ev rfl) (ev rfl)).mono ?_; rintro _ _ ⟨rfl, rfl⟩; refine ⟨?_, Ext.refl _⟩; rw [hβ20]; skip
      cases hbb : ((β15 && β17) && β18) <;> simp [hbb] at h173_ ⊢
      all_goals (first | rfl | (subst h173_; rfl) | simp_all)
    refine RW_d _ rfl (fun v => by dsimp only [List.set]; try rfl) (fun u hu hF => ?_) (fun v228 => ?_)
    · have h174_ : v227 = (Bo β20) := hF.1
      clear hF
      refine doesG_un rfl ?_
      obtain rfl := h174_
      refine (does_move (u := (Bo β20)) (ev rfl)).mono ?_; rintro _ _ ⟨rfl, rfl⟩
      exact ⟨rfl, Ext.refl _⟩
    refine RW_d _ rfl (fun v => by dsimp only [List.set]; try rfl) (fun u hu hF => ?_) (fun v229 => ?_)
    · have h175_ : v228 = (Bo β20) := hF.1
      clear hF
      obtain rfl := h175_
      refine doesG_g (b := β20) rfl (yld rfl rfl) (fun hg1 => ?_) (fun hc => ⟨fun hg1 => absurd hg1 hc, Ext.refl _⟩)
      refine (does_move (u := (Pt s__b s__o)) (ev rfl)).mono ?_; rintro _ _ ⟨rfl, rfl⟩
      exact ⟨fun _ => rfl, Ext.refl _⟩
    refine RW_d _ rfl (fun v => by dsimp only [List.set]; try rfl) (fun u hu hF => ?_) (fun v230 => ?_)
    · have h176_ : β20 = true → v229 = (Pt s__b s__o) := hF.1
      have h175_ : v228 = (Bo β20) := hF.2.1
      clear hF
      obtain rfl := h175_
      refine doesG_g (b := β20) rfl (yld rfl rfl) (fun hg1 => ?_) (fun hc => ⟨fun hg1 => absurd hg1 hc, Ext.refl _⟩)
      obtain rfl := h176_ hg1
      refine (does_nilCheck (ev rfl)).mono ?_; rintro _ _ ⟨rfl, rfl⟩
      exact ⟨fun _ => rfl, Ext.refl _⟩
    refine RW_d _ rfl (fun v => by dsimp only [List.set]; try rfl) (fun u hu hF => ?_) (fun v231 => ?_)
    · have h177_ : β20 = true → v230 = (Pt s__b s__o) := hF.1
      have h175_ : v228 = (Bo β20) := hF.2.1
      clear hF
      obtain rfl := h175_
      refine doesG_g (b := β20) rfl (yld rfl rfl) (fun hg1 => ?_) (fun hc => ⟨fun hg1 => absurd hg1 hc, Ext.refl _⟩)
      obtain rfl := h177_ hg1
      refine (does_fieldAddr (ev rfl) fa100_3).mono ?_; rintro _ _ ⟨rfl, rfl⟩
      exact ⟨fun _ => rfl, Ext.refl _⟩
    refine RW_d _ rfl (fun v => by dsimp only [List.set]; try rfl) (fun u hu hF => ?_) (fun v232 => ?_)
    · have h178_ : β20 = true → v231 = (Pt s__b (s__o + 3)) := hF.1
      have h175_ : v228 = (Bo β20) := hF.2.1
      clear hF
      obtain rfl := h175_
      refine doesG_g (b := β20) rfl (yld rfl rfl) (fun hg1 => ?_) (fun hc => ⟨fun hg1 => absurd hg1 hc, Ext.refl _⟩)
      obtain rfl := h178_ hg1
      refine (does_load (u := (Iv A_s_.b)) (ev rfl) Try.isAgg2 (Cells.at ((hc_s_.ext X209).ext hu) 3 rfl)).mono ?_; rintro _ _ ⟨rfl, rfl⟩
      exact ⟨fun _ => rfl, Ext.refl _⟩
    refine RW_d _ rfl (fun v => by dsimp only [List.set]; try rfl) (fun u hu hF => ?_) (fun v233 => ?_)
    · have h179_ : β20 = true → v232 = (Iv A_s_.b) := hF.1
      have h175_ : v228 = (Bo β20) := hF.2.1
      clear hF
      obtain rfl := h175_
      refine doesG_g (b := β20) rfl (yld rfl rfl) (fun hg1 => ?_) (fun hc => ⟨fun hg1 => absurd hg1 hc, Ext.refl _⟩)
      obtain rfl := h179_ hg1
      refine (does_icmp (p := A_s_.b) (q := 0) (.inl rfl) (ev rfl) (ev rfl)).mono ?_; rintro _ _ ⟨rfl, rfl⟩
      exact ⟨fun _ => rfl, Ext.refl _⟩
    refine RW_d _ rfl (fun v => by dsimp only [List.set]; try rfl) (fun u hu hF => ?_) (fun v234 => ?_)
    · have h180_ : β20 = true → v233 = (Bo (icmp .eql A_s_.b 0)) := hF.1
      have h175_ : v228 = (Bo β20) := hF.2.1
      clear hF
      obtain rfl := h175_
      refine doesG_g (b := β20) rfl (yld rfl rfl) (fun hg1 => ?_) (fun hc => ⟨⟨fun hg1 => absurd hg1 hc, fun _ => rfl⟩, Ext.refl _⟩)
      obtain rfl := h180_ hg1
      refine (does_move (u := (Bo (icmp .eql A_s_.b 0))) (ev rfl)).mono ?_; rintro _ _ ⟨rfl, rfl⟩
      exact ⟨⟨fun _ => rfl, fun hn => absurd hg1 hn⟩, Ext.refl _⟩
    refine RW_d _ rfl (fun v => by dsimp only [List.set]; try rfl) (fun u hu hF => ?_) (fun v235 => ?_)
    · have h181_ : (β20 = true → v234 = (Bo (icmp .eql A_s_.b 0))) ∧ (¬ (β20 = true) → v234 = undef) := hF.1; have h181u := h181_.2; replace h181_ := h181_.1
      clear hF
      refine doesG_gg (b := (icmp .eql A_s_.b 0)) (c := β20 = true) rfl (fun hc => ?_) (fun hc => ?_) (fun hc hg2 => ?_) (fun hc => ⟨fun hg1 hg2 => absurd ⟨hg1, hg2⟩ hc, Ext.refl _⟩)
      · have hg1 := hc; obtain rfl := h181_ hg1; exact yld rfl rfl
      · obtain rfl := h181u hc; exact yldn rfl rfl
      have hg1 := hc
      obtain rfl := h181_ hg1
      refine (does_fieldAddr (ev rfl) fa140_1).mono ?_; rintro _ _ ⟨rfl, rfl⟩
      exact ⟨fun _ _ => rfl, Ext.refl _⟩
    refine RW_d _ rfl (fun v => by dsimp only [List.set]; try rfl) (fun u hu hF => ?_) (fun v236 => ?_)
    · have h182_ : β20 = true → (icmp .eql A_s_.b 0) = false → v235 = (Pt b25 1) := hF.1
      have h181_ : (β20 = true → v234 = (Bo (icmp .eql A_s_.b 0))) ∧ (¬ (β20 = true) → v234 = undef) := hF.2.1; have h181u := h181_.2; replace h181_ := h181_.1
      clear hF
      refine doesG_gg (b := (icmp .eql A_s_.b 0)) (c := β20 = true) rfl (fun hc => ?_) (fun hc => ?_) (fun hc hg2 => ?_) (fun hc => ⟨fun hg1 hg2 => absurd ⟨hg1, hg2⟩ hc, Ext.refl _⟩)
      · have hg1 := hc; obtain rfl := h181_ hg1; exact yld rfl rfl
      · obtain rfl := h181u hc; exact yldn rfl rfl
      have hg1 := hc
      obtain rfl := h181_ hg1
      obtain rfl := h182_ hg1 hg2
      refine (does_load (u := (Iv ((ruleP A_s_.node.kind).ch))) (ev rfl) Try.isAgg3 (Cells.at (Blk.cells ((((hB36.ext E42).ext E91).ext E206).ext hu)) 1 rfl)).mono ?_; rintro _ _ ⟨rfl, rfl⟩
      exact ⟨fun _ _ => rfl, Ext.refl _⟩
    refine RW_d _ rfl (fun v => by dsimp only [List.set]; try rfl) (fun u hu hF => ?_) (fun v237 => ?_)
    · have h183_ : β20 = true → (icmp .eql A_s_.b 0) = false → v236 = (Iv ((ruleP A_s_.node.kind).ch)) := hF.1
      have h181_ : (β20 = true → v234 = (Bo (icmp .eql A_s_.b 0))) ∧ (¬ (β20 = true) → v234 = undef) := hF.2.1; have h181u := h181_.2; replace h181_ := h181_.1
      clear hF
      refine doesG_gg (b := (icmp .eql A_s_.b 0)) (c := β20 = true) rfl (fun hc => ?_) (fun hc => ?_) (fun hc hg2 => ?_) (fun hc => ⟨fun hg1 hg2 => absurd ⟨hg1, hg2⟩ hc, Ext.refl _⟩)
      · have hg1 := hc; obtain rfl := h181_ hg1; exact yld rfl rfl
      · obtain rfl := h181u hc; exact yldn rfl rfl
      have hg1 := hc
      obtain rfl := h181_ hg1
      obtain rfl := h183_ hg1 hg2
      refine (does_icmp (p := (ruleP A_s_.node.kind).ch) (q := 2) (.inl rfl) (ev rfl) (ev rfl)).mono ?_; rintro _ _ ⟨rfl, rfl⟩
      exact ⟨fun _ _ => (by first | rfl | (show _ = _; simp only [hβ21])), Ext.refl _⟩
    refine RW_d _ rfl (fun v => by dsimp only [List.set]; try rfl) (fun u hu hF => ?_) (fun v238 => ?_)
    · have h184_ : β20 = true → (icmp .eql A_s_.b 0) = false → v237 = (Bo β21) := hF.1
      have h181_ : (β20 = true → v234 = (Bo (icmp .eql A_s_.b 0))) ∧ (¬ (β20 = true) → v234 = undef) := hF.2.1; have h181u := h181_.2; replace h181_ := h181_.1
      clear hF
      refine doesG_gg (b := (icmp .eql A_s_.b 0)) (c := β20 = true) rfl (fun hc => ?_) (fun hc => ?_) (fun hc hg2 => ?_) (fun hc => ⟨⟨fun hg1 hg2 => absurd ⟨hg1, hg2⟩ hc, fun _ => rfl⟩, Ext.refl _⟩)
      · have hg1 := hc; obtain rfl := h181_ hg1; exact yld rfl rfl
      · obtain rfl := h181u hc; exact yldn rfl rfl
      have hg1 := hc
      obtain rfl := h181_ hg1
      obtain rfl := h184_ hg1 hg2
      refine (does_move (u := (Bo β21)) (ev rfl)).mono ?_; rintro _ _ ⟨rfl, rfl⟩
      exact ⟨⟨fun _ _ => rfl, fun hn => absurd ⟨hg1, hg2⟩ hn⟩, Ext.refl _⟩
    refine RW_d _ rfl (fun v => by dsimp only [List.set]; try rfl) (fun u hu hF => ?_) (fun v239 => ?_)
    · have h185_ : (β20 = true → (icmp .eql A_s_.b 0) = false → v238 = (Bo β21)) ∧ (¬ (β20 = true ∧ (icmp .eql A_s_.b 0) = false) → v238 = undef) := hF.1; have h185u := h185_.2; replace h185_ := h185_.1
      clear hF
      refine doesG_gg (b := β21) (c := β20 = true ∧ (icmp .eql A_s_.b 0) = false) rfl (fun hc => ?_) (fun hc => ?_) (fun hc hg3 => ?_) (fun hc => ⟨fun hg1 hg2 hg3 => absurd ⟨⟨hg1, hg2⟩, hg3⟩ hc, Ext.refl _⟩)
      · obtain ⟨hg1, hg2⟩ := hc; obtain rfl := h185_ hg1 hg2; exact yld rfl rfl
      · obtain rfl := h185u hc; exact yldn rfl rfl
      obtain ⟨hg1, hg2⟩ := hc
      obtain rfl := h185_ hg1 hg2
      refine (does_move (u := (.func (.func 100) #[] #[(Pt b12 0)])) (ev rfl)).mono ?_; rintro _ _ ⟨rfl, rfl⟩
      exact ⟨fun _ _ _ => rfl, Ext.refl _⟩
    refine RW_d _ rfl (fun v => by dsimp only [List.set]; try rfl) (fun u hu hF => ?_) (fun v240 => ?_)
    · have h185_ : (β20 = true → (icmp .eql A_s_.b 0) = false → v238 = (Bo β21)) ∧ (¬ (β20 = true ∧ (icmp .eql A_s_.b 0) = false) → v238 = undef) := hF.1; have h185u := h185_.2; replace h185_ := h185_.1
      clear hF
      refine doesG_gg (b := β21) (c := β20 = true ∧ (icmp .eql A_s_.b 0) = false) rfl (fun hc => ?_) (fun hc => ?_) (fun hc hg3 => ?_) (fun hc => ⟨fun hg1 hg2 hg3 => absurd ⟨⟨hg1, hg2⟩, hg3⟩ hc, Ext.refl _⟩)
      · obtain ⟨hg1, hg2⟩ := hc; obtain rfl := h185_ hg1 hg2; exact yld rfl rfl
      · obtain rfl := h185u hc; exact yldn rfl rfl
      obtain ⟨hg1, hg2⟩ := hc
      obtain rfl := h185_ hg1 hg2
      refine (does_move (u := (Pt s__b s__o)) (ev rfl)).mono ?_; rintro _ _ ⟨rfl, rfl⟩
      exact ⟨fun _ _ _ => rfl, Ext.refl _⟩
    refine RW_d _ rfl (fun v => by dsimp only [List.set]; try rfl) (fun u hu hF => ?_) (fun v241 => ?_)
    · have h187_ : β20 = true → (icmp .eql A_s_.b 0) = false → β21 = true → v240 = (Pt s__b s__o) := hF.1
      have h185_ : (β20 = true → (icmp .eql A_s_.b 0) = false → v238 = (Bo β21)) ∧ (¬ (β20 = true ∧ (icmp .eql A_s_.b 0) = false) → v238 = undef) := hF.2.1; have h185u := h185_.2; replace h185_ := h185_.1
      clear hF
      refine doesG_gg (b := β21) (c := β20 = true ∧ (icmp .eql A_s_.b 0) = false) rfl (fun hc => ?_) (fun hc => ?_) (fun hc hg3 => ?_) (fun hc => ⟨fun hg1 hg2 hg3 => absurd ⟨⟨hg1, hg2⟩, hg3⟩ hc, Ext.refl _⟩)
      · obtain ⟨hg1, hg2⟩ := hc; obtain rfl := h185_ hg1 hg2; exact yld rfl rfl
      · obtain rfl := h185u hc; exact yldn rfl rfl
      obtain ⟨hg1, hg2⟩ := hc
      obtain rfl := h185_ hg1 hg2
      obtain rfl := h187_ hg1 hg2 hg3
      refine (does_nilCheck (ev rfl)).mono ?_; rintro _ _ ⟨rfl, rfl⟩
      exact ⟨fun _ _ _ => rfl, Ext.refl _⟩
    refine RW_d _ rfl (fun v => by dsimp only [List.set]; try rfl) (fun u hu hF => ?_) (fun v242 => ?_)
    · have h188_ : β20 = true → (icmp .eql A_s_.b 0) = false → β21 = true → v241 = (Pt s__b s__o) := hF.1
      have h185_ : (β20 = true → (icmp .eql A_s_.b 0) = false → v238 = (Bo β21)) ∧ (¬ (β20 = true ∧ (icmp .eql A_s_.b 0) = false) → v238 = undef) := hF.2.1; have h185u := h185_.2; replace h185_ := h185_.1
      clear hF
      refine doesG_gg (b := β21) (c := β20 = true ∧ (icmp .eql A_s_.b 0) = false) rfl (fun hc => ?_) (fun hc => ?_) (fun hc hg3 => ?_) (fun hc => ⟨fun hg1 hg2 hg3 => absurd ⟨⟨hg1, hg2⟩, hg3⟩ hc, Ext.refl _⟩)
      · obtain ⟨hg1, hg2⟩ := hc; obtain rfl := h185_ hg1 hg2; exact yld rfl rfl
      · obtain rfl := h185u hc; exact yldn rfl rfl
      obtain ⟨hg1, hg2⟩ := hc
      obtain rfl := h185_ hg1 hg2
      obtain rfl := h188_ hg1 hg2 hg3
      refine (does_fieldAddr (ev rfl) fa100_3).mono ?_; rintro _ _ ⟨rfl, rfl⟩
      exact ⟨fun _ _ _ => rfl, Ext.refl _⟩
    refine RW_d _ rfl (fun v => by dsimp only [List.set]; try rfl) (fun u hu hF => ?_) (fun v243 => ?_)
    · have h189_ : β20 = true → (icmp .eql A_s_.b 0) = false → β21 = true → v242 = (Pt s__b (s__o + 3)) := hF.1
      have h185_ : (β20 = true → (icmp .eql A_s_.b 0) = false → v238 = (Bo β21)) ∧ (¬ (β20 = true ∧ (icmp .eql A_s_.b 0) = false) → v238 = undef) := hF.2.1; have h185u := h185_.2; replace h185_ := h185_.1
      clear hF
      refine doesG_gg (b := β21) (c := β20 = true ∧ (icmp .eql A_s_.b 0) = false) rfl (fun hc => ?_) (fun hc => ?_) (fun hc hg3 => ?_) (fun hc => ⟨fun hg1 hg2 hg3 => absurd ⟨⟨hg1, hg2⟩, hg3⟩ hc, Ext.refl _⟩)
      · obtain ⟨hg1, hg2⟩ := hc; obtain rfl := h185_ hg1 hg2; exact yld rfl rfl
      · obtain rfl := h185u hc; exact yldn rfl rfl
      obtain ⟨hg1, hg2⟩ := hc
      obtain rfl := h185_ hg1 hg2
      obtain rfl := h189_ hg1 hg2 hg3
      refine (does_load (u := (Iv A_s_.b)) (ev rfl) Try.isAgg2 (Cells.at ((hc_s_.ext X209).ext hu) 3 rfl)).mono ?_; rintro _ _ ⟨rfl, rfl⟩
      exact ⟨fun _ _ _ => rfl, Ext.refl _⟩
    refine RW_d _ rfl (fun v => by dsimp only [List.set]; try rfl) (fun u hu hF => ?_) (fun v244 => ?_)
    · have h190_ : β20 = true → (icmp .eql A_s_.b 0) = false → β21 = true → v243 = (Iv A_s_.b) := hF.1
      have h186_ : β20 = true → (icmp .eql A_s_.b 0) = false → β21 = true → v239 = (.func (.func 100) #[] #[(Pt b12 0)]) := hF.2.1
      have h185_ : (β20 = true → (icmp .eql A_s_.b 0) = false → v238 = (Bo β21)) ∧ (¬ (β20 = true ∧ (icmp .eql A_s_.b 0) = false) → v238 = undef) := hF.2.2.1; have h185u := h185_.2; replace h185_ := h185_.1
      clear hF
      refine doesG_gg (b := β21) (c := β20 = true ∧ (icmp .eql A_s_.b 0) = false) rfl (fun hc => ?_) (fun hc => ?_) (fun hc hg3 => ?_) (fun hc => ⟨fun hg1 hg2 hg3 => absurd ⟨⟨hg1, hg2⟩, hg3⟩ hc, Ext.refl _⟩)
      · obtain ⟨hg1, hg2⟩ := hc; obtain rfl := h185_ hg1 hg2; exact yld rfl rfl
      · obtain rfl := h185u hc; exact yldn rfl rfl
      obtain ⟨hg1, hg2⟩ := hc
      obtain rfl := h185_ hg1 hg2
      obtain rfl := h190_ hg1 hg2 hg3
      obtain rfl := h186_ hg1 hg2 hg3
      refine (does_callv (fst := #[]) (args := #[(Iv A_s_.b)]) (cap := #[(Pt b12 0)]) (all := #[(Iv A_s_.b), (Pt b12 0)]) (ev rfl) cal100 (evs rfl) rfl (c_impl_Step_ok_2 A_s_.b b12 0 p_b p_o [(Iv A_p.points), (Iv A_p.values), (.slice p8 A_p.steps.length q9)] A_p _ ((hc_p.ext X209).ext hu) ⟨(.slice p8 A_p.steps.length q9), rfl, (Sl.ext (Sl.ext hs10 RStepT.mono X209) RStepT.mono hu)⟩ (Blk.cells (((((((hB14.ext E22).ext E28).wr W35 (Nat.ne_of_lt n32)).ext E42).ext E91).ext E206).ext hu)))).mono ?_; rintro v u' ⟨hx, hv⟩
      exact ⟨fun _ _ _ => hv.trans (by simp only [hβ22]), hx⟩
    refine RW_d _ rfl (fun v => by dsimp only [List.set]; try rfl) (fun u hu hF => ?_) (fun v245 => ?_)
    · have h185_ : (β20 = true → (icmp .eql A_s_.b 0) = false → v238 = (Bo β21)) ∧ (¬ (β20 = true ∧ (icmp .eql A_s_.b 0) = false) → v238 = undef) := hF.1; have h185u := h185_.2; replace h185_ := h185_.1
      have h191_ : β20 = true → (icmp .eql A_s_.b 0) = false → β21 = true → v244 = (Bo β22) := hF.2.1
      have h181_ : (β20 = true → v234 = (Bo (icmp .eql A_s_.b 0))) ∧ (¬ (β20 = true) → v234 = undef) := hF.2.2.1; have h181u := h181_.2; replace h181_ := h181_.1
      clear hF
      refine doesG_gg (b := (icmp .eql A_s_.b 0)) (c := β20 = true) rfl (fun hc => ?_) (fun hc => ?_) (fun hc hg2 => ?_) (fun hc => ⟨fun hg1 hg2 => absurd ⟨hg1, hg2⟩ hc, Ext.refl _⟩)
      · have hg1 := hc; obtain rfl := h181_ hg1; exact yld rfl rfl
      · obtain rfl := h181u hc; exact yldn rfl rfl
      have hg1 := hc
      obtain rfl := h181_ hg1
      skip
      obtain rfl := h185_ hg1 hg2
      replace h191_ := h191_ hg1 hg2
      refine (does_pick (b := β21) (ev rfl) (ev rfl) (ev rfl)).mono ?_; rintro _ _ ⟨rfl, rfl⟩; refine ⟨fun _ _ => ?_, Ext.refl _⟩; skip
      cases hbb : β21 <;> simp [hbb] at h191_ ⊢
      all_goals (first | rfl | (subst h191_; rfl) | simp_all)
    refine RW_d _ rfl (fun v => by dsimp only [List.set]; try rfl) (fun u hu hF => ?_) (fun v246 => ?_)
    · have h181_ : (β20 = true → v234 = (Bo (icmp .eql A_s_.b 0))) ∧ (¬ (β20 = true) → v234 = undef) := hF.1; have h181u := h181_.2; replace h181_ := h181_.1
      have h192_ : β20 = true → (icmp .eql A_s_.b 0) = false → v245 = (Bo (β21 && β22)) := hF.2.1
      have h175_ : v228 = (Bo β20) := hF.2.2.1
      clear hF
      obtain rfl := h175_
      refine doesG_g (b := β20) rfl (yld rfl rfl) (fun hg1 => ?_) (fun hc => ⟨fun hg1 => absurd hg1 hc, Ext.refl _⟩)
      skip
      obtain rfl := h181_ hg1
      replace h192_ := h192_ hg1
      refine (does_pick (b := (icmp .eql A_s_.b 0)) (ev rfl) (ev rfl) (ev rfl)).mono ?_; rintro _ _ ⟨rfl, rfl⟩; refine ⟨fun _ => ?_, Ext.refl _⟩; rw [hβ23]; skip
      cases hbb : (icmp .eql A_s_.b 0) <;> simp [hbb] at h192_ ⊢
      all_goals (first | rfl | (subst h192_; rfl) | simp_all)
    refine RW_d _ rfl (fun v => by dsimp only [List.set]; try rfl) (fun u hu hF => ?_) (fun v247 => ?_)
    · have h175_ : v228 = (Bo β20) := hF.1
      have h193_ : β20 = true → v246 = (Bo β23) := hF.2.1
      clear hF
      refine doesG_un rfl ?_
      skip
      obtain rfl := h175_
      refine (does_pick (b := β20) (ev rfl) (ev rfl) (ev rfl)).mono ?_; rintro _ _ ⟨rfl, rfl⟩; refine ⟨?_, Ext.refl _⟩; skip
      cases hbb : β20 <;> simp [hbb] at h193_ ⊢
      all_goals (first | rfl | (subst h193_; rfl) | simp_all)
    refine RW_fin ?_; intro w248 E249 hP250
    obtain ⟨⟨⟨⟨⟨⟨⟨⟨⟨⟨⟨⟨⟨⟨⟨⟨⟨⟨⟨⟨⟨⟨⟨⟨⟨⟨⟨⟨⟨⟨⟨⟨⟨⟨⟨⟨⟨-, -⟩, -⟩, -⟩, -⟩, -⟩, -⟩, -⟩, -⟩, -⟩, -⟩, -⟩, -⟩, -⟩, -⟩, -⟩, -⟩, -⟩, -⟩, -⟩, -⟩, -⟩, -⟩, -⟩, -⟩, -⟩, -⟩, -⟩, -⟩, -⟩, -⟩, -⟩, -⟩, -⟩, -⟩, -⟩, -⟩, q251⟩ := hP250
    have X252 := Ext.gr X209 E249
    have q251 : v247 = (Bo (β20 && β23)) := q251
    obtain rfl := q251
    show wpList _ _ _ _ (fr [(Pt s__b s__o), (Pt p_b p_o), Ud, (Pt b12 0), (Bo false), (Pt b25 0), (Bo (rlOk A_s_.node.kind)), (.func (.func 99) #[] #[(Pt b12 0)]), (.func (.func 100) #[] #[(Pt b12 0)]), (Bo (β15 && β17)), (.tuple #[(.agg #[(Iv ((ruleP A_s_.node.kind).num)), (Iv ((ruleP A_s_.node.kind).ch)), (Bo ((ruleP A_s_.node.kind).ax)), (Iv ((ruleP A_s_.node.kind).sg))]), (Bo (rlOk A_s_.node.kind))]), (Pt s__b s__o), (Pt s__b s__o), (Pt s__b (s__o + 4)), (Pt s__b (s__o + 4)), (Iv A_s_.node.kind), (.tuple #[(.agg #[(Iv ((ruleP A_s_.node.kind).num)), (Iv ((ruleP A_s_.node.kind).ch)), (Bo ((ruleP A_s_.node.kind).ax)), (Iv ((ruleP A_s_.node.kind).sg))]), (Bo (rlOk A_s_.node.kind))]), (.agg #[(Iv ((ruleP A_s_.node.kind).num)), (Iv ((ruleP A_s_.node.kind).ch)), (Bo ((ruleP A_s_.node.kind).ax)), (Iv ((ruleP A_s_.node.kind).sg))]), (Bo (rlOk A_s_.node.kind)), v45, v46, v47, v48, v49, v50, v51, v52, v53, v54, v55, v56, v57, v58, v59, v60, v61, v62, v63, v64, v65, v66, v67, v68, v69, v70, v71, v72, v73, v74, v75, v76, v77, v78, v79, v80, v81, v82, v83, v84, v85, v86, v87, v88, (Bo (β3 || β6)), (.func (.func 99) #[] #[(Pt b12 0)]), (.func (.func 100) #[] #[(Pt b12 0)]), (Pt s__b s__o), (Pt s__b s__o), (Pt s__b s__o), (Iv A_s_.kind), (Bo (icmp .eql A_s_.kind 0)), (Bo (icmp .eql A_s_.kind 0)), Ud, Ud, Ud, Ud, Ud, Ud, Ud, Ud, Ud, Ud, Ud, Ud, Ud, Ud, Ud, Ud, Ud, Ud, Ud, Ud, Ud, Ud, Ud, Ud, Ud, Ud, Ud, Ud, Ud, Ud, Ud, Ud, Ud, Ud, Ud, Ud, (Bo (icmp .eql A_s_.kind 1)), (Bo (icmp .eql A_s_.kind 1)), Ud, Ud, Ud, Ud, Ud, Ud, Ud, Ud, Ud, Ud, Ud, Ud, Ud, Ud, Ud, Ud, Ud, Ud, Ud, Ud, Ud, Ud, Ud, Ud, Ud, Ud, (Bo (icmp .eql A_s_.kind 2)), (Bo (icmp .eql A_s_.kind 2)), v185, v186, v187, v188, v189, v190, v191, v192, v193, v194, v195, v196, v197, v198, v199, v200, v201, v202, v203, (Bo (β15 && β17)), v211, v212, v213, v214, v215, v216, v217, v218, v219, v220, v221, v222, v223, v224, v225, v226, v227, v228, v229, v230, v231, v232, v233, v234, v235, v236, v237, v238, v239, v240, v241, v242, v243, v244, v245, v246, (Bo (β20 && β23))]) _
    refine q_is rfl rfl (does_assign (u := (Bo (β20 && β23))) (ev rfl)) (by dsimp only [List.set]; try rfl) ?_
    refine wpList_nil (hK210 _ _ ?_)
    refine wp_ret ?_
    dsimp only [Exit.then, Exit.inBlock]
    refine ret_val (v := (Bo (β20 && β23))) (res_T rfl (slot rfl)) X252 ?_
    try simp only [hβ1, hβ2, hβ3, hβ4, hβ5, hβ6, hβ15, hβ16, hβ17, hβ18, hβ19, hβ20, hβ21, hβ22, hβ23] at c95 c103 c148 c183
    have x253 : (stepOk A_p A_s_) = (β20 && β23) := by first | exact stepOk_n hno | exact stepOk_x (by assumption) (by assumption) (by assumption) | (rw [stepI_0 hno.1 (by assumption)]; first | done | (simp only [hβ1, hβ2, hβ3, hβ4, hβ5, hβ6, hβ15, hβ16, hβ17, hβ18, hβ19, hβ20, hβ21, hβ22, hβ23, c95, c103, c148, c183]; done)) | (rw [stepI_1 hno.1 hno.2 (by assumption)]; first | done | (simp only [hβ1, hβ2, hβ3, hβ4, hβ5, hβ6, hβ15, hβ16, hβ17, hβ18, hβ19, hβ20, hβ21, hβ22, hβ23, c95, c103, c148, c183]; done)) | (rw [stepI_2 hno.1 hno.2 (by assumption)]; first | done | (simp only [hβ1, hβ2, hβ3, hβ4, hβ5, hβ6, hβ15, hβ16, hβ17, hβ18, hβ19, hβ20, hβ21, hβ22, hβ23, c95, c103, c148, c183]; done))
    exact (by first | rfl | rw [x253])
  have c183' := c183
  (try simp only [hβ1, hβ2, hβ3, hβ4, hβ5, hβ6] at c183')
  (try simp only [icmp, Bool.and_eq_true, Bool.or_eq_true, Bool.and_eq_false_iff, Bool.or_eq_false_iff, Bool.not_eq_true', Bool.not_eq_false', decide_eq_true_eq, decide_eq_false_iff_not, beq_iff_eq, bne_iff_ne, beq_eq_false_iff_ne, bne_eq_false_iff_eq] at c183')
  refine wp_skip (hK100 _ _ ?_)
  refine wp_seq_k fun K254 hK254 => ?_
  refine wp_region_lit ?_
  refine q_is rfl rfl (does_assign (u := (Bo false)) (ev rfl)) (by dsimp only [List.set]; try rfl) ?_
  refine wpList_nil (hK254 _ _ ?_)
  refine wp_ret ?_
  refine ret_val (v := (Bo false)) (res_T rfl (slot rfl)) X94 ?_
  try simp only [hβ1, hβ2, hβ3, hβ4, hβ5, hβ6] at c95 c103 c148 c183
  have x255 : (stepOk A_p A_s_) = false := by first | exact stepOk_n hno | exact stepOk_x (by assumption) (by assumption) (by assumption) | (rw [stepI_0 hno.1 (by assumption)]; first | done | (simp only [hβ1, hβ2, hβ3, hβ4, hβ5, hβ6, c95, c103, c148, c183]; done)) | (rw [stepI_1 hno.1 hno.2 (by assumption)]; first | done | (simp only [hβ1, hβ2, hβ3, hβ4, hβ5, hβ6, c95, c103, c148, c183]; done)) | (rw [stepI_2 hno.1 hno.2 (by assumption)]; first | done | (simp only [hβ1, hβ2, hβ3, hβ4, hβ5, hβ6, c95, c103, c148, c183]; done))
  exact (by first | rfl | rw [x255])

/- impl.ValidProgram -/
theorem c_impl_ValidProgram (p : List Value) (A_p : ProgT) (w : World) (hv_p : RProgT w A_p p) : Gives Try.prog 21 #[(.agg p.toArray)] w (fun v w' => v = (Bo (progOk A_p))) := by
  obtain ⟨y1, rfl, h2⟩ := hv_p
  have hs5 := h2; have hs5l := Sl.len h2; obtain ⟨p3, q4, rfl⟩ := Sl.shape h2
  refine enter [(.agg #[(Iv A_p.points), (Iv A_p.values), (.slice p3 A_p.steps.length q4)]), Ud, Ud, Ud, Ud, Ud, Ud, Ud, Ud, Ud, Ud, Ud, Ud, Ud, Ud, Ud, Ud, Ud, Ud, Ud, Ud, Ud, Ud, Ud, Ud, Ud, Ud, Ud, Ud, Ud, Ud, Ud, Ud, Ud, Ud, Ud, Ud, Ud, Ud, Ud, Ud, Ud, Ud, Ud, Ud, Ud, Ud, Ud, Ud, Ud, Ud] Try.func21 rfl Try.ntmps21 rfl ?_
  refine wp_seq_k fun K6 hK6 => ?_
  refine wp_region_lit ?_
  refine seqd rfl rfl (does_box (u := (.agg #[(Iv A_p.points), (Iv A_p.values), (.slice p3 A_p.steps.length q4)])) (ev rfl)) ?_; rintro _ w11 ⟨b7, rfl, hb8, hB9, E10⟩
  have g12 : w.heap.size ≤ b7 := Nat.le_trans (Below.size (Ext.refl w)) hb8
  change Blk _ _ [(Iv A_p.points), (Iv A_p.values), (.slice p3 A_p.steps.length q4)] at hB9
  have X13 := Ext.gr (Ext.refl w) E10
  show wpList _ _ _ _ (fr [(.agg #[(Iv A_p.points), (Iv A_p.values), (.slice p3 A_p.steps.length q4)]), (Pt b7 0), Ud, Ud, Ud, Ud, Ud, Ud, Ud, Ud, Ud, Ud, Ud, Ud, Ud, Ud, Ud, Ud, Ud, Ud, Ud, Ud, Ud, Ud, Ud, Ud, Ud, Ud, Ud, Ud, Ud, Ud, Ud, Ud, Ud, Ud, Ud, Ud, Ud, Ud, Ud, Ud, Ud, Ud, Ud, Ud, Ud, Ud, Ud, Ud, Ud]) _
  refine q_is rfl rfl (does_assign (u := (Bo false)) (ev rfl)) (by dsimp only [List.set]; try rfl) ?_
  refine wpList_nil (hK6 _ _ ?_)
  refine wp_seq_k fun K14 hK14 => ?_
  refine wp_seq_k fun K15 hK15 => ?_
  obtain ⟨β1, hβ1⟩ : ∃ b : Bool, b = ((!(inI A_p.points 1 18)) || (!(inI A_p.values 1 18))) := ⟨_, rfl⟩
  obtain ⟨β2, hβ2⟩ : ∃ b : Bool, b = (inI (A_p.steps.length : Int) 1 40) := ⟨_, rfl⟩
  refine region_text (
    [Fact.pure [] (fun v => v = (Pt b7 0)),
    Fact.pure [5] (fun v => v = (Iv A_p.points)),
    Fact.pure [6] (fun v => v = (Bo (inI A_p.points 1 18))),
    Fact.pure [7] (fun v => v = (Bo (!(inI A_p.points 1 18)))),
    Fact.pure [8] (fun v => v = (Bo (!(inI A_p.points 1 18)))),
    Fact.pure [9] (fun v => (!(inI A_p.points 1 18)) = false → v = (Pt b7 1)),
    Fact.pure [10, 9] (fun v => (!(inI A_p.points 1 18)) = false → v = (Iv A_p.values)),
    Fact.pure [11, 9] (fun v => (!(inI A_p.points 1 18)) = false → v = (Bo (inI A_p.values 1 18))),
    Fact.pure [12, 9] (fun v => (!(inI A_p.points 1 18)) = false → v = (Bo (!(inI A_p.values 1 18)))),
    Fact.pure [9, 13] (fun v => v = (Bo β1)),
    Fact.pure [14] (fun v => v = (Bo β1)),
    Fact.pure [15] (fun v => β1 = false → v = (Pt b7 2)),
    Fact.pure [16, 15] (fun v => β1 = false → v = (.slice p3 A_p.steps.length q4)),
    Fact.pure [17, 15] (fun v => β1 = false → v = (Iv (A_p.steps.length : Int))),
    Fact.pure [18, 15] (fun v => β1 = false → v = (Bo β2)),
    Fact.pure [19, 15] (fun v => β1 = false → v = (Bo (!β2))),
    Fact.pure [15, 20] (fun v => v = (Bo (β1 || (!β2))))]) (by simp [Fact.pure, Fact.mem]) ?_
  refine RW_d _ rfl (fun v => by dsimp only [List.set]; try rfl) (fun u hu hF => ?_) (fun v16 => ?_)
  · clear hF
    refine doesG_un rfl ?_
    refine (does_fieldAddr (ev rfl) fa38_0).mono ?_; rintro _ _ ⟨rfl, rfl⟩
    exact ⟨rfl, Ext.refl _⟩
  refine RW_d _ rfl (fun v => by dsimp only [List.set]; try rfl) (fun u hu hF => ?_) (fun v17 => ?_)
  · have h5_ : v16 = (Pt b7 0) := hF.1
    clear hF
    refine doesG_un rfl ?_
    obtain rfl := h5_
    refine (does_load (u := (Iv A_p.points)) (ev rfl) Try.isAgg2 (Cells.at (Blk.cells (hB9.ext hu)) 0 rfl)).mono ?_; rintro _ _ ⟨rfl, rfl⟩
    exact ⟨rfl, Ext.refl _⟩
  refine RW_d _ rfl (fun v => by dsimp only [List.set]; try rfl) (fun u hu hF => ?_) (fun v18 => ?_)
  · have h6_ : v17 = (Iv A_p.points) := hF.1
    clear hF
    refine doesG_un rfl ?_
    obtain rfl := h6_
    refine (does_call (args := #[(Iv A_p.points)]) cal54 (evs rfl) (c_impl_registersOk A_p.points _)).mono ?_; rintro v u' ⟨hx, hv⟩
    exact ⟨hv, hx⟩
  refine RW_d _ rfl (fun v => by dsimp only [List.set]; try rfl) (fun u hu hF => ?_) (fun v19 => ?_)
  · have h7_ : v18 = (Bo (inI A_p.points 1 18)) := hF.1
    clear hF
    refine doesG_un rfl ?_
    obtain rfl := h7_
    refine (does_not (ev rfl)).mono ?_; rintro _ _ ⟨rfl, rfl⟩
    exact ⟨rfl, Ext.refl _⟩
  refine RW_d _ rfl (fun v => by dsimp only [List.set]; try rfl) (fun u hu hF => ?_) (fun v20 => ?_)
  · have h8_ : v19 = (Bo (!(inI A_p.points 1 18))) := hF.1
    clear hF
    refine doesG_un rfl ?_
    obtain rfl := h8_
    refine (does_move (u := (Bo (!(inI A_p.points 1 18)))) (ev rfl)).mono ?_; rintro _ _ ⟨rfl, rfl⟩
    exact ⟨rfl, Ext.refl _⟩
  refine RW_d _ rfl (fun v => by dsimp only [List.set]; try rfl) (fun u hu hF => ?_) (fun v21 => ?_)
  · have h9_ : v20 = (Bo (!(inI A_p.points 1 18))) := hF.1
    clear hF
    obtain rfl := h9_
    refine doesG_g (b := (!(inI A_p.points 1 18))) rfl (yld rfl rfl) (fun hg1 => ?_) (fun hc => ⟨fun hg1 => absurd hg1 hc, Ext.refl _⟩)
    refine (does_fieldAddr (ev rfl) fa38_1).mono ?_; rintro _ _ ⟨rfl, rfl⟩
    exact ⟨fun _ => rfl, Ext.refl _⟩
  refine RW_d _ rfl (fun v => by dsimp only [List.set]; try rfl) (fun u hu hF => ?_) (fun v22 => ?_)
  · have h10_ : (!(inI A_p.points 1 18)) = false → v21 = (Pt b7 1) := hF.1
    have h9_ : v20 = (Bo (!(inI A_p.points 1 18))) := hF.2.1
    clear hF
    obtain rfl := h9_
    refine doesG_g (b := (!(inI A_p.points 1 18))) rfl (yld rfl rfl) (fun hg1 => ?_) (fun hc => ⟨fun hg1 => absurd hg1 hc, Ext.refl _⟩)
    obtain rfl := h10_ hg1
    refine (does_load (u := (Iv A_p.values)) (ev rfl) Try.isAgg2 (Cells.at (Blk.cells (hB9.ext hu)) 1 rfl)).mono ?_; rintro _ _ ⟨rfl, rfl⟩
    exact ⟨fun _ => rfl, Ext.refl _⟩
  refine RW_d _ rfl (fun v => by dsimp only [List.set]; try rfl) (fun u hu hF => ?_) (fun v23 => ?_)
  · have h11_ : (!(inI A_p.points 1 18)) = false → v22 = (Iv A_p.values) := hF.1
    have h9_ : v20 = (Bo (!(inI A_p.points 1 18))) := hF.2.1
    clear hF
    obtain rfl := h9_
    refine doesG_g (b := (!(inI A_p.points 1 18))) rfl (yld rfl rfl) (fun hg1 => ?_) (fun hc => ⟨fun hg1 => absurd hg1 hc, Ext.refl _⟩)
    obtain rfl := h11_ hg1
    refine (does_call (args := #[(Iv A_p.values)]) cal54 (evs rfl) (c_impl_registersOk A_p.values _)).mono ?_; rintro v u' ⟨hx, hv⟩
    exact ⟨fun _ => hv, hx⟩
  refine RW_d _ rfl (fun v => by dsimp only [List.set]; try rfl) (fun u hu hF => ?_) (fun v24 => ?_)
  · have h12_ : (!(inI A_p.points 1 18)) = false → v23 = (Bo (inI A_p.values 1 18)) := hF.1
    have h9_ : v20 = (Bo (!(inI A_p.points 1 18))) := hF.2.1
    clear hF
    obtain rfl := h9_
    refine doesG_g (b := (!(inI A_p.points 1 18))) rfl (yld rfl rfl) (fun hg1 => ?_) (fun hc => ⟨fun hg1 => absurd hg1 hc, Ext.refl _⟩)
    obtain rfl := h12_ hg1
    refine (does_not (ev rfl)).mono ?_; rintro _ _ ⟨rfl, rfl⟩
    exact ⟨fun _ => rfl, Ext.refl _⟩
  refine RW_d _ rfl (fun v => by dsimp only [List.set]; try rfl) (fun u hu hF => ?_) (fun v25 => ?_)
  · have h9_ : v20 = (Bo (!(inI A_p.points 1 18))) := hF.1
    have h13_ : (!(inI A_p.points 1 18)) = false → v24 = (Bo (!(inI A_p.values 1 18))) := hF.2.1
    clear hF
    refine doesG_un rfl ?_
    skip
    obtain rfl := h9_
    refine (does_pick (b := (!(inI A_p.points 1 18))) (ev rfl) (ev rfl) (ev rfl)).mono ?_; rintro _ _ ⟨rfl, rfl⟩; refine ⟨?_, Ext.refl _⟩; rw [hβ1]; skip
    cases hbb : (!(inI A_p.points 1 18)) <;> simp [hbb] at h13_ ⊢
    all_goals (first | rfl | (subst h13_; rfl) | simp_all)
  refine RW_d _ rfl (fun v => by dsimp only [List.set]; try rfl) (fun u hu hF => ?_) (fun v26 => ?_)
  · have h14_ : v25 = (Bo β1) := hF.1
    clear hF
    refine doesG_un rfl ?_
    obtain rfl := h14_
    refine (does_move (u := (Bo β1)) (ev rfl)).mono ?_; rintro _ _ ⟨rfl, rfl⟩
    exact ⟨rfl, Ext.refl _⟩
  refine RW_d _ rfl (fun v => by dsimp only [List.set]; try rfl) (fun u hu hF => ?_) (fun v27 => ?_)
  · have h15_ : v26 = (Bo β1) := hF.1
    clear hF
    obtain rfl := h15_
    refine doesG_g (b := β1) rfl (yld rfl rfl) (fun hg1 => ?_) (fun hc => ⟨fun hg1 => absurd hg1 hc, Ext.refl _⟩)
    refine (does_fieldAddr (ev rfl) fa38_2).mono ?_; rintro _ _ ⟨rfl, rfl⟩
    exact ⟨fun _ => rfl, Ext.refl _⟩
  refine RW_d _ rfl (fun v => by dsimp only [List.set]; try rfl) (fun u hu hF => ?_) (fun v28 => ?_)
  · have h16_ : β1 = false → v27 = (Pt b7 2) := hF.1
    have h15_ : v26 = (Bo β1) := hF.2.1
    clear hF
    obtain rfl := h15_
    refine doesG_g (b := β1) rfl (yld rfl rfl) (fun hg1 => ?_) (fun hc => ⟨fun hg1 => absurd hg1 hc, Ext.refl _⟩)
    obtain rfl := h16_ hg1
    refine (does_load (u := (.slice p3 A_p.steps.length q4)) (ev rfl) Try.isAgg36 (Cells.at (Blk.cells (hB9.ext hu)) 2 rfl)).mono ?_; rintro _ _ ⟨rfl, rfl⟩
    exact ⟨fun _ => rfl, Ext.refl _⟩
  refine RW_d _ rfl (fun v => by dsimp only [List.set]; try rfl) (fun u hu hF => ?_) (fun v29 => ?_)
  · have h17_ : β1 = false → v28 = (.slice p3 A_p.steps.length q4) := hF.1
    have h15_ : v26 = (Bo β1) := hF.2.1
    clear hF
    obtain rfl := h15_
    refine doesG_g (b := β1) rfl (yld rfl rfl) (fun hg1 => ?_) (fun hc => ⟨fun hg1 => absurd hg1 hc, Ext.refl _⟩)
    obtain rfl := h17_ hg1
    refine (does_len_slice Try.underlying36 (ev rfl)).mono ?_; rintro _ _ ⟨rfl, rfl⟩
    exact ⟨fun _ => rfl, Ext.refl _⟩
  refine RW_d _ rfl (fun v => by dsimp only [List.set]; try rfl) (fun u hu hF => ?_) (fun v30 => ?_)
  · have h18_ : β1 = false → v29 = (Iv (A_p.steps.length : Int)) := hF.1
    have h15_ : v26 = (Bo β1) := hF.2.1
    clear hF
    obtain rfl := h15_
    refine doesG_g (b := β1) rfl (yld rfl rfl) (fun hg1 => ?_) (fun hc => ⟨fun hg1 => absurd hg1 hc, Ext.refl _⟩)
    obtain rfl := h18_ hg1
    refine (does_call (args := #[(Iv (A_p.steps.length : Int)), (Iv 1), (Iv 40)]) cal55 (evs rfl) (c_impl_in (A_p.steps.length : Int) 1 40 _)).mono ?_; rintro v u' ⟨hx, hv⟩
    exact ⟨fun _ => hv.trans (by simp only [hβ2]), hx⟩
  refine RW_d _ rfl (fun v => by dsimp only [List.set]; try rfl) (fun u hu hF => ?_) (fun v31 => ?_)
  · have h19_ : β1 = false → v30 = (Bo β2) := hF.1
    have h15_ : v26 = (Bo β1) := hF.2.1
    clear hF
    obtain rfl := h15_
    refine doesG_g (b := β1) rfl (yld rfl rfl) (fun hg1 => ?_) (fun hc => ⟨fun hg1 => absurd hg1 hc, Ext.refl _⟩)
    obtain rfl := h19_ hg1
    refine (does_not (ev rfl)).mono ?_; rintro _ _ ⟨rfl, rfl⟩
    exact ⟨fun _ => rfl, Ext.refl _⟩
  refine RW_d _ rfl (fun v => by dsimp only [List.set]; try rfl) (fun u hu hF => ?_) (fun v32 => ?_)
  · have h15_ : v26 = (Bo β1) := hF.1
    have h20_ : β1 = false → v31 = (Bo (!β2)) := hF.2.1
    clear hF
    refine doesG_un rfl ?_
    skip
    obtain rfl := h15_
    refine (does_pick (b := β1) (ev rfl) (ev rfl) (ev rfl)).mono ?_; rintro _ _ ⟨rfl, rfl⟩; refine ⟨?_, Ext.refl _⟩; skip
    cases hbb : β1 <;> simp [hbb] at h20_ ⊢
    all_goals (first | rfl | (subst h20_; rfl) | simp_all)
  refine RW_fin ?_; intro w33 E34 hP35
  obtain ⟨⟨⟨⟨⟨⟨⟨⟨⟨⟨⟨⟨⟨⟨⟨⟨⟨-, -⟩, -⟩, -⟩, -⟩, -⟩, -⟩, -⟩, -⟩, -⟩, -⟩, -⟩, -⟩, -⟩, -⟩, -⟩, -⟩, q36⟩ := hP35
  have X37 := Ext.gr X13 E34
  have q36 : v32 = (Bo (β1 || (!β2))) := q36
  obtain rfl := q36
  show wpList _ _ _ _ (fr [(.agg #[(Iv A_p.points), (Iv A_p.values), (.slice p3 A_p.steps.length q4)]), (Pt b7 0), (Bo false), Ud, Ud, v16, v17, v18, v19, v20, v21, v22, v23, v24, v25, v26, v27, v28, v29, v30, v31, (Bo (β1 || (!β2))), Ud, Ud, Ud, Ud, Ud, Ud, Ud, Ud, Ud, Ud, Ud, Ud, Ud, Ud, Ud, Ud, Ud, Ud, Ud, Ud, Ud, Ud, Ud, Ud, Ud, Ud, Ud, Ud, Ud]) _
  refine wpList_nil (hK15 _ _ ?_)
  refine wp_cond_split (t := β1 || (!β2)) (ev rfl) (fun c38 => ?_) (fun c38 => ?_)
  · have c38' := c38
    (try simp only [hβ1, hβ2] at c38')
    (try simp only [icmp, Bool.and_eq_true, Bool.or_eq_true, Bool.and_eq_false_iff, Bool.or_eq_false_iff, Bool.not_eq_true', Bool.not_eq_false', decide_eq_true_eq, decide_eq_false_iff_not, beq_iff_eq, bne_iff_ne, beq_eq_false_iff_ne, bne_eq_false_iff_eq] at c38')
    refine wp_seq_k fun K39 hK39 => ?_
    refine wp_region_lit ?_
    refine q_is rfl rfl (does_assign (u := (Bo false)) (ev rfl)) (by dsimp only [List.set]; try rfl) ?_
    refine wpList_nil (hK39 _ _ ?_)
    refine wp_ret ?_
    dsimp only [Exit.then, Exit.inBlock]
    refine ret_val (v := (Bo false)) (res_T rfl (slot rfl)) X37 ?_
    try simp only [hβ1, hβ2] at c38
    have x40 : (progOk A_p) = false := by first | exact progOk_bad (by assumption) (by assumption) | exact progOk_fs (by assumption) | exact progOk_fi (by assumption) | (rw [progOk_ts (by assumption) hal (by omega), lastOk_of' (by assumption)]; first | done | (simp only [hβ1, hβ2, c38]; done)) | (rw [progOk_ti (by assumption) hal (by omega), lastOk_of' (by assumption)]; first | done | (simp only [hβ1, hβ2, c38]; done))
    exact (by first | rfl | rw [x40])
  have c38' := c38
  (try simp only [hβ1, hβ2] at c38')
  (try simp only [icmp, Bool.and_eq_true, Bool.or_eq_true, Bool.and_eq_false_iff, Bool.or_eq_false_iff, Bool.not_eq_true', Bool.not_eq_false', decide_eq_true_eq, decide_eq_false_iff_not, beq_iff_eq, bne_iff_ne, beq_eq_false_iff_ne, bne_eq_false_iff_eq] at c38')
  have hln := progOk_len (p := A_p) (by assumption)
  refine wp_skip (hK14 _ _ ?_)
  refine wp_seq_k fun K41 hK41 => ?_
  refine wp_seq_k fun K42 hK42 => ?_
  refine wp_region_lit ?_
  refine q_is rfl rfl (does_fieldAddr (ev rfl) fa38_2) (by dsimp only [List.set]; try rfl) ?_
  refine q_is rfl rfl (does_load (u := (.slice p3 A_p.steps.length q4)) (ev rfl) Try.isAgg36 (Cells.at (Blk.cells (hB9.ext E34)) 2 rfl)) (by dsimp only [List.set]; try rfl) ?_
  refine q_is rfl rfl (does_len_slice Try.underlying36 (ev rfl)) (by dsimp only [List.set]; try rfl) ?_
  refine q_is rfl rfl (does_move (u := (Iv 0)) (ev rfl)) (by dsimp only [List.set]; try rfl) ?_
  refine wpList_nil (hK42 _ _ ?_)
  refine wp_block ?_
  refine loop_ghost (σ := Nat) (fun k a w' => ∃ u43 : Nat → Value, a = fr [(.agg #[(Iv A_p.points), (Iv A_p.values), (.slice p3 A_p.steps.length q4)]), (Pt b7 0), (u43 2), (u43 3), Ud, v16, v17, v18, v19, v20, v21, v22, v23, v24, v25, v26, v27, v28, v29, v30, v31, (Bo (β1 || (!β2))), (Pt b7 2), (.slice p3 A_p.steps.length q4), (Iv (A_p.steps.length : Int)), (Iv (k : Int)), (u43 26), (u43 27), (u43 28), (u43 29), (u43 30), (u43 31), (u43 32), (u43 33), (u43 34), Ud, Ud, Ud, Ud, Ud, Ud, Ud, Ud, Ud, Ud, Ud, Ud, Ud, Ud, Ud, Ud] ∧ Ext w33 w' ∧ (k ≤ A_p.steps.length ∧ AllTo (stepOk A_p) A_p.steps k)) (fun k => A_p.steps.length - k) 0 ?_ ?_
  · refine ⟨fun t => (([(.agg #[(Iv A_p.points), (Iv A_p.values), (.slice p3 A_p.steps.length q4)]), (Pt b7 0), (Bo false), Ud, Ud, v16, v17, v18, v19, v20, v21, v22, v23, v24, v25, v26, v27, v28, v29, v30, v31, (Bo (β1 || (!β2))), (Pt b7 2), (.slice p3 A_p.steps.length q4), (Iv (A_p.steps.length : Int)), (Iv 0), Ud, Ud, Ud, Ud, Ud, Ud, Ud, Ud, Ud, Ud, Ud, Ud, Ud, Ud, Ud, Ud, Ud, Ud, Ud, Ud, Ud, Ud, Ud, Ud, Ud] : List Value)[t]?).getD undef, rfl, Ext.refl _, ?_⟩
    exact ⟨Nat.zero_le _, AllTo.zero⟩
  · rintro k a w44 ⟨u43, rfl, E45, ⟨hk, hal⟩⟩
    have X47 := Ext.gr X37 E45
    refine wp_seq_k fun K48 hK48 => ?_
    refine wp_region_lit ?_
    refine q_is rfl rfl (does_icmp (p := (k : Int)) (q := (A_p.steps.length : Int)) (.inr (.inr (.inl rfl))) (ev rfl) (ev rfl)) (by dsimp only [List.set]; try rfl) ?_
    refine wpList_nil (hK48 _ _ ?_)
    refine wp_seq_k fun K49 hK49 => ?_
    refine wp_cond_split (t := icmp .lss (k : Int) (A_p.steps.length : Int)) (ev rfl) (fun c50 => ?_) (fun c50 => ?_)
    · have c50' := c50
      (try simp only [hβ1, hβ2] at c50')
      (try simp only [icmp, Bool.and_eq_true, Bool.or_eq_true, Bool.and_eq_false_iff, Bool.or_eq_false_iff, Bool.not_eq_true', Bool.not_eq_false', decide_eq_true_eq, decide_eq_false_iff_not, beq_iff_eq, bne_iff_ne, beq_eq_false_iff_ne, bne_eq_false_iff_eq] at c50')
      refine wp_skip (hK49 _ _ ?_)
      refine wp_seq_k fun K51 hK51 => ?_
      refine wp_block ?_
      refine wp_seq_k fun K52 hK52 => ?_
      refine wp_region_lit ?_
      refine q_is rfl rfl (does_move (u := (Iv (k : Int))) (ev rfl)) (by dsimp only [List.set]; try rfl) ?_
      refine q_is rfl rfl (does_assign (u := (Iv (k : Int))) (ev rfl)) (by dsimp only [List.set]; try rfl) ?_
      refine wpList_nil (hK52 _ _ ?_)
      refine wp_seq_k fun K53 hK53 => ?_
      refine wp_region_lit ?_
      refine q_is rfl rfl (does_fieldAddr (ev rfl) fa38_2) (by dsimp only [List.set]; try rfl) ?_
      refine q_is rfl rfl (does_load (u := (.slice p3 A_p.steps.length q4)) (ev rfl) Try.isAgg36 (Cells.at (Blk.cells ((hB9.ext E34).ext E45)) 2 rfl)) (by dsimp only [List.set]; try rfl) ?_
      refine q_is rfl rfl (does_move (u := (Iv (k : Int))) (ev rfl)) (by dsimp only [List.set]; try rfl) ?_
      obtain ⟨el1, hel1⟩ : ∃ e, A_p.steps[k]? = some e := ⟨_, List.getElem?_eq_getElem (by omega)⟩
      refine seqd rfl rfl (does_indexSl (R := RStepT) (i := (k : Int)) (xs := A_p.steps) (e := el1) Try.underlying36 Try.sizeOf100 (ev rfl) (ev rfl) (Sl.ext hs5 RStepT.mono X47) (by omega) hel1) ?_; rintro _ w44 ⟨b54, o55, _, rfl, hc57, ⟨y58, rfl, h59⟩, rfl⟩
      have hs62 := h59; have hs62l := Sl.len h59; obtain ⟨p60, q61, rfl⟩ := Sl.shape h59
      show wpList _ _ _ _ (fr [(.agg #[(Iv A_p.points), (Iv A_p.values), (.slice p3 A_p.steps.length q4)]), (Pt b7 0), (u43 2), (Iv (k : Int)), Ud, v16, v17, v18, v19, v20, v21, v22, v23, v24, v25, v26, v27, v28, v29, v30, v31, (Bo (β1 || (!β2))), (Pt b7 2), (.slice p3 A_p.steps.length q4), (Iv (A_p.steps.length : Int)), (Iv (k : Int)), (Bo (icmp .lss (k : Int) (A_p.steps.length : Int))), (Iv (k : Int)), (Pt b7 2), (.slice p3 A_p.steps.length q4), (Iv (k : Int)), (Pt b54 o55), (u43 32), (u43 33), (u43 34), Ud, Ud, Ud, Ud, Ud, Ud, Ud, Ud, Ud, Ud, Ud, Ud, Ud, Ud, Ud, Ud]) _
      refine seqd rfl rfl (does_call (args := #[(Pt b54 o55), (Pt b7 0)]) cal56 (evs rfl) (c_impl_Step_ok b54 o55 [(Iv el1.kind), (Iv el1.to), (Iv el1.a), (Iv el1.b), (Iv el1.node.kind), (Iv el1.node.a), (Iv el1.node.b), (.slice p60 el1.node.nums.length q61)] el1 b7 0 [(Iv A_p.points), (Iv A_p.values), (.slice p3 A_p.steps.length q4)] A_p _ hc57 ⟨(.slice p60 el1.node.nums.length q61), rfl, hs62⟩ (Blk.cells ((hB9.ext E34).ext E45)) ⟨(.slice p3 A_p.steps.length q4), rfl, (Sl.ext hs5 RStepT.mono X47)⟩)) ?_; rintro _ w64 ⟨E63, rfl⟩
      have X65 := Ext.gr X47 E63
      show wpList _ _ _ _ (fr [(.agg #[(Iv A_p.points), (Iv A_p.values), (.slice p3 A_p.steps.length q4)]), (Pt b7 0), (u43 2), (Iv (k : Int)), Ud, v16, v17, v18, v19, v20, v21, v22, v23, v24, v25, v26, v27, v28, v29, v30, v31, (Bo (β1 || (!β2))), (Pt b7 2), (.slice p3 A_p.steps.length q4), (Iv (A_p.steps.length : Int)), (Iv (k : Int)), (Bo (icmp .lss (k : Int) (A_p.steps.length : Int))), (Iv (k : Int)), (Pt b7 2), (.slice p3 A_p.steps.length q4), (Iv (k : Int)), (Pt b54 o55), (Bo (stepOk A_p el1)), (u43 33), (u43 34), Ud, Ud, Ud, Ud, Ud, Ud, Ud, Ud, Ud, Ud, Ud, Ud, Ud, Ud, Ud, Ud]) _
      refine q_is rfl rfl (does_not (ev rfl)) (by dsimp only [List.set]; try rfl) ?_
      refine wpList_nil (hK53 _ _ ?_)
      refine wp_cond_split (t := !(stepOk A_p el1)) (ev rfl) (fun c66 => ?_) (fun c66 => ?_)
      · rw [Bool.not_eq_true'] at c66
        have c66' := c66
        (try simp only [hβ1, hβ2] at c66')
        (try simp only [icmp, Bool.and_eq_true, Bool.or_eq_true, Bool.and_eq_false_iff, Bool.or_eq_false_iff, Bool.not_eq_true', Bool.not_eq_false', decide_eq_true_eq, decide_eq_false_iff_not, beq_iff_eq, bne_iff_ne, beq_eq_false_iff_ne, bne_eq_false_iff_eq] at c66')
        refine wp_seq_k fun K67 hK67 => ?_
        refine wp_region_lit ?_
        refine q_is rfl rfl (does_assign (u := (Bo false)) (ev rfl)) (by dsimp only [List.set]; try rfl) ?_
        refine wpList_nil (hK67 _ _ ?_)
        refine wp_ret ?_
        dsimp only [Exit.then, Exit.inBlock]
        refine ret_val (v := (Bo false)) (res_T rfl (slot rfl)) X65 ?_
        try simp only [hβ1, hβ2, hel1] at c38 c50 c66
        have x68 : (progOk A_p) = false := by first | exact progOk_bad (by assumption) (by assumption) | exact progOk_fs (by assumption) | exact progOk_fi (by assumption) | (rw [progOk_ts (by assumption) hal (by omega), lastOk_of' (by assumption)]; first | done | (simp only [hβ1, hβ2, hel1, c38, c50, c66]; done)) | (rw [progOk_ti (by assumption) hal (by omega), lastOk_of' (by assumption)]; first | done | (simp only [hβ1, hβ2, hel1, c38, c50, c66]; done))
        exact (by first | rfl | rw [x68])
      rw [Bool.not_eq_false'] at c66
      have c66' := c66
      (try simp only [hβ1, hβ2] at c66')
      (try simp only [icmp, Bool.and_eq_true, Bool.or_eq_true, Bool.and_eq_false_iff, Bool.or_eq_false_iff, Bool.not_eq_true', Bool.not_eq_false', decide_eq_true_eq, decide_eq_false_iff_not, beq_iff_eq, bne_iff_ne, beq_eq_false_iff_ne, bne_eq_false_iff_eq] at c66')
      refine wp_skip (hK51 _ _ ?_)
      refine wp_region_lit ?_
      refine q_is rfl rfl (does_iarith (p := (k : Int)) (q := 1) (r := (k : Int) + 1) (ev rfl) (ev rfl) (.inl ⟨rfl, (in_i64 (by omega) (by omega)).symm⟩)) (by dsimp only [List.set]; try rfl) ?_
      refine q_is rfl rfl (does_move (u := (Iv ((k : Int) + 1))) (ev rfl)) (by dsimp only [List.set]; try rfl) ?_
      refine wpList_nil ?_
      refine ⟨k + 1, ⟨fun t => (([(.agg #[(Iv A_p.points), (Iv A_p.values), (.slice p3 A_p.steps.length q4)]), (Pt b7 0), (u43 2), (Iv (k : Int)), Ud, v16, v17, v18, v19, v20, v21, v22, v23, v24, v25, v26, v27, v28, v29, v30, v31, (Bo (β1 || (!β2))), (Pt b7 2), (.slice p3 A_p.steps.length q4), (Iv (A_p.steps.length : Int)), (Iv ((k : Int) + 1)), (Bo (icmp .lss (k : Int) (A_p.steps.length : Int))), (Iv (k : Int)), (Pt b7 2), (.slice p3 A_p.steps.length q4), (Iv (k : Int)), (Pt b54 o55), (Bo (stepOk A_p el1)), (Bo (!(stepOk A_p el1))), (Iv ((k : Int) + 1)), Ud, Ud, Ud, Ud, Ud, Ud, Ud, Ud, Ud, Ud, Ud, Ud, Ud, Ud, Ud, Ud] : List Value)[t]?).getD undef, ?_, (Ext.gr E45 E63), ?_⟩, ?_⟩
      · first | rfl | (simp only [Nat.cast_add, Nat.cast_one, Int.natCast_add, Int.natCast_one]; rfl)
      · exact ⟨by omega, AllTo.step hal (by assumption) (by assumption)⟩
      · omega
    have c50' := c50
    (try simp only [hβ1, hβ2] at c50')
    (try simp only [icmp, Bool.and_eq_true, Bool.or_eq_true, Bool.and_eq_false_iff, Bool.or_eq_false_iff, Bool.not_eq_true', Bool.not_eq_false', decide_eq_true_eq, decide_eq_false_iff_not, beq_iff_eq, bne_iff_ne, beq_eq_false_iff_ne, bne_eq_false_iff_eq] at c50')
    refine wp_exit ?_
    refine hK41 _ _ ?_
    refine wp_seq_k fun K69 hK69 => ?_
    refine wp_region_lit ?_
    refine q_is rfl rfl (does_fieldAddr (ev rfl) fa38_2) (by dsimp only [List.set]; try rfl) ?_
    refine q_is rfl rfl (does_load (u := (.slice p3 A_p.steps.length q4)) (ev rfl) Try.isAgg36 (Cells.at (Blk.cells ((hB9.ext E34).ext E45)) 2 rfl)) (by dsimp only [List.set]; try rfl) ?_
    refine q_is rfl rfl (does_fieldAddr (ev rfl) fa38_2) (by dsimp only [List.set]; try rfl) ?_
    refine q_is rfl rfl (does_load (u := (.slice p3 A_p.steps.length q4)) (ev rfl) Try.isAgg36 (Cells.at (Blk.cells ((hB9.ext E34).ext E45)) 2 rfl)) (by dsimp only [List.set]; try rfl) ?_
    refine q_is rfl rfl (does_len_slice Try.underlying36 (ev rfl)) (by dsimp only [List.set]; try rfl) ?_
    refine q_is rfl rfl (does_iarith (p := (A_p.steps.length : Int)) (q := 1) (r := (A_p.steps.length : Int) - 1) (ev rfl) (ev rfl) (.inr (.inl ⟨rfl, (in_i64 (by omega) (by omega)).symm⟩))) (by dsimp only [List.set]; try rfl) ?_
    obtain ⟨el2, hel2⟩ : ∃ e, A_p.steps[((A_p.steps.length : Int) - 1).toNat]? = some e := ⟨_, List.getElem?_eq_getElem (by omega)⟩
    refine seqd rfl rfl (does_indexSl (R := RStepT) (i := (A_p.steps.length : Int) - 1) (xs := A_p.steps) (e := el2) Try.underlying36 Try.sizeOf100 (ev rfl) (ev rfl) (Sl.ext hs5 RStepT.mono X47) (by omega) hel2) ?_; rintro _ w44 ⟨b70, o71, _, rfl, hc73, ⟨y74, rfl, h75⟩, rfl⟩
    have hs78 := h75; have hs78l := Sl.len h75; obtain ⟨p76, q77, rfl⟩ := Sl.shape h75
    show wpList _ _ _ _ (fr [(.agg #[(Iv A_p.points), (Iv A_p.values), (.slice p3 A_p.steps.length q4)]), (Pt b7 0), (u43 2), (u43 3), Ud, v16, v17, v18, v19, v20, v21, v22, v23, v24, v25, v26, v27, v28, v29, v30, v31, (Bo (β1 || (!β2))), (Pt b7 2), (.slice p3 A_p.steps.length q4), (Iv (A_p.steps.length : Int)), (Iv (k : Int)), (Bo (icmp .lss (k : Int) (A_p.steps.length : Int))), (u43 27), (u43 28), (u43 29), (u43 30), (u43 31), (u43 32), (u43 33), (u43 34), (Pt b7 2), (.slice p3 A_p.steps.length q4), (Pt b7 2), (.slice p3 A_p.steps.length q4), (Iv (A_p.steps.length : Int)), (Iv ((A_p.steps.length : Int) - 1)), (Pt b70 o71), Ud, Ud, Ud, Ud, Ud, Ud, Ud, Ud, Ud]) _
    refine q_is rfl rfl (does_loadAgg (cs := [(Iv el2.kind), (Iv el2.to), (Iv el2.a), (Iv el2.b), (Iv el2.node.kind), (Iv el2.node.a), (Iv el2.node.b), (.slice p76 el2.node.nums.length q77)]) (ev rfl) Try.isAgg100 Try.sizeOf100 hc73 rfl) (by dsimp only [List.set]; try rfl) ?_
    refine seqd rfl rfl (does_alloc z100) ?_; rintro _ w83 ⟨b79, rfl, hb80, hB81, E82⟩
    have n84 : b7 < b79 := Nat.lt_of_lt_of_le (Blk.lt ((hB9.ext E34).ext E45)) hb80
    have n85 : b70 < b79 := Nat.lt_of_lt_of_le (cell_lt (Cells.at hc73 0 rfl)) hb80
    have g86 : w.heap.size ≤ b79 := Nat.le_trans (Below.size X47) hb80
    change Blk _ _ [(Iv 0), (Iv 0), (Iv 0), (Iv 0), (Iv 0), (Iv 0), (Iv 0), (.slice none 0 0)] at hB81
    have X87 := Ext.gr X47 E82
    show wpList _ _ _ _ (fr [(.agg #[(Iv A_p.points), (Iv A_p.values), (.slice p3 A_p.steps.length q4)]), (Pt b7 0), (u43 2), (u43 3), (Pt b79 0), v16, v17, v18, v19, v20, v21, v22, v23, v24, v25, v26, v27, v28, v29, v30, v31, (Bo (β1 || (!β2))), (Pt b7 2), (.slice p3 A_p.steps.length q4), (Iv (A_p.steps.length : Int)), (Iv (k : Int)), (Bo (icmp .lss (k : Int) (A_p.steps.length : Int))), (u43 27), (u43 28), (u43 29), (u43 30), (u43 31), (u43 32), (u43 33), (u43 34), (Pt b7 2), (.slice p3 A_p.steps.length q4), (Pt b7 2), (.slice p3 A_p.steps.length q4), (Iv (A_p.steps.length : Int)), (Iv ((A_p.steps.length : Int) - 1)), (Pt b70 o71), (.agg #[(Iv el2.kind), (Iv el2.to), (Iv el2.a), (Iv el2.b), (Iv el2.node.kind), (Iv el2.node.a), (Iv el2.node.b), (.slice p76 el2.node.nums.length q77)]), Ud, Ud, Ud, Ud, Ud, Ud, Ud, Ud]) _
    refine seqn rfl rfl (does_store (n := 8) (cs := [(Iv 0), (Iv 0), (Iv 0), (Iv 0), (Iv 0), (Iv 0), (Iv 0), (.slice none 0 0)]) (u := (.agg #[(Iv el2.kind), (Iv el2.to), (Iv el2.a), (Iv el2.b), (Iv el2.node.kind), (Iv el2.node.a), (Iv el2.node.b), (.slice p76 el2.node.nums.length q77)])) (ev rfl) (ev rfl) Try.sizeOf100 rfl hB81 (Nat.le_of_ble_eq_true rfl) rfl) ?_; rintro _ w90 ⟨rfl, W88, hB89⟩
    change Blk _ _ [(Iv el2.kind), (Iv el2.to), (Iv el2.a), (Iv el2.b), (Iv el2.node.kind), (Iv el2.node.a), (Iv el2.node.b), (.slice p76 el2.node.nums.length q77)] at hB89
    have X91 := Below.wr X87 W88 g86
    refine wpList_nil (hK69 _ _ ?_)
    refine wp_seq_k fun K92 hK92 => ?_
    obtain ⟨β3, hβ3⟩ : ∃ b : Bool, b = ((icmp .eql el2.to 0) && (icmp .neq el2.kind 0)) := ⟨_, rfl⟩
    refine region_text (
      [Fact.pure [] (fun v => v = (Pt b79 1)),
    Fact.pure [43] (fun v => v = (Iv el2.to)),
    Fact.pure [44] (fun v => v = (Bo (icmp .eql el2.to 0))),
    Fact.pure [45] (fun v => v = (Bo (icmp .eql el2.to 0))),
    Fact.pure [46] (fun v => (icmp .eql el2.to 0) = true → v = (Pt b79 0)),
    Fact.pure [47, 46] (fun v => (icmp .eql el2.to 0) = true → v = (Iv el2.kind)),
    Fact.pure [48, 46] (fun v => (icmp .eql el2.to 0) = true → v = (Bo (icmp .neq el2.kind 0))),
    Fact.pure [46, 49] (fun v => v = (Bo β3))]) (by simp [Fact.pure, Fact.mem]) ?_
    refine RW_d _ rfl (fun v => by dsimp only [List.set]; try rfl) (fun u hu hF => ?_) (fun v93 => ?_)
    · clear hF
      refine doesG_un rfl ?_
      refine (does_fieldAddr (ev rfl) fa100_1).mono ?_; rintro _ _ ⟨rfl, rfl⟩
      exact ⟨rfl, Ext.refl _⟩
    refine RW_d _ rfl (fun v => by dsimp only [List.set]; try rfl) (fun u hu hF => ?_) (fun v94 => ?_)
    · have h43_ : v93 = (Pt b79 1) := hF.1
      clear hF
      refine doesG_un rfl ?_
      obtain rfl := h43_
      refine (does_load (u := (Iv el2.to)) (ev rfl) Try.isAgg2 (Cells.at (Blk.cells (hB89.ext hu)) 1 rfl)).mono ?_; rintro _ _ ⟨rfl, rfl⟩
      exact ⟨rfl, Ext.refl _⟩
    refine RW_d _ rfl (fun v => by dsimp only [List.set]; try rfl) (fun u hu hF => ?_) (fun v95 => ?_)
    · have h44_ : v94 = (Iv el2.to) := hF.1
      clear hF
      refine doesG_un rfl ?_
      obtain rfl := h44_
      refine (does_icmp (p := el2.to) (q := 0) (.inl rfl) (ev rfl) (ev rfl)).mono ?_; rintro _ _ ⟨rfl, rfl⟩
      exact ⟨rfl, Ext.refl _⟩
    refine RW_d _ rfl (fun v => by dsimp only [List.set]; try rfl) (fun u hu hF => ?_) (fun v96 => ?_)
    · have h45_ : v95 = (Bo (icmp .eql el2.to 0)) := hF.1
      clear hF
      refine doesG_un rfl ?_
      obtain rfl := h45_
      refine (does_move (u := (Bo (icmp .eql el2.to 0))) (ev rfl)).mono ?_; rintro _ _ ⟨rfl, rfl⟩
      exact ⟨rfl, Ext.refl _⟩
    refine RW_d _ rfl (fun v => by dsimp only [List.set]; try rfl) (fun u hu hF => ?_) (fun v97 => ?_)
    · have h46_ : v96 = (Bo (icmp .eql el2.to 0)) := hF.1
      clear hF
      obtain rfl := h46_
      refine doesG_g (b := (icmp .eql el2.to 0)) rfl (yld rfl rfl) (fun hg1 => ?_) (fun hc => ⟨fun hg1 => absurd hg1 hc, Ext.refl _⟩)
      refine (does_fieldAddr (ev rfl) fa100_0).mono ?_; rintro _ _ ⟨rfl, rfl⟩
      exact ⟨fun _ => rfl, Ext.refl _⟩
    refine RW_d _ rfl (fun v => by dsimp only [List.set]; try rfl) (fun u hu hF => ?_) (fun v98 => ?_)
    · have h47_ : (icmp .eql el2.to 0) = true → v97 = (Pt b79 0) := hF.1
      have h46_ : v96 = (Bo (icmp .eql el2.to 0)) := hF.2.1
      clear hF
      obtain rfl := h46_
      refine doesG_g (b := (icmp .eql el2.to 0)) rfl (yld rfl rfl) (fun hg1 => ?_) (fun hc => ⟨fun hg1 => absurd hg1 hc, Ext.refl _⟩)
      obtain rfl := h47_ hg1
      refine (does_load (u := (Iv el2.kind)) (ev rfl) Try.isAgg2 (Cells.at (Blk.cells (hB89.ext hu)) 0 rfl)).mono ?_; rintro _ _ ⟨rfl, rfl⟩
      exact ⟨fun _ => rfl, Ext.refl _⟩
    refine RW_d _ rfl (fun v => by dsimp only [List.set]; try rfl) (fun u hu hF => ?_) (fun v99 => ?_)
    · have h48_ : (icmp .eql el2.to 0) = true → v98 = (Iv el2.kind) := hF.1
      have h46_ : v96 = (Bo (icmp .eql el2.to 0)) := hF.2.1
      clear hF
      obtain rfl := h46_
      refine doesG_g (b := (icmp .eql el2.to 0)) rfl (yld rfl rfl) (fun hg1 => ?_) (fun hc => ⟨fun hg1 => absurd hg1 hc, Ext.refl _⟩)
      obtain rfl := h48_ hg1
      refine (does_icmp (p := el2.kind) (q := 0) (.inr (.inl rfl)) (ev rfl) (ev rfl)).mono ?_; rintro _ _ ⟨rfl, rfl⟩
      exact ⟨fun _ => rfl, Ext.refl _⟩
    refine RW_d _ rfl (fun v => by dsimp only [List.set]; try rfl) (fun u hu hF => ?_) (fun v100 => ?_)
    · have h46_ : v96 = (Bo (icmp .eql el2.to 0)) := hF.1
      have h49_ : (icmp .eql el2.to 0) = true → v99 = (Bo (icmp .neq el2.kind 0)) := hF.2.1
      clear hF
      refine doesG_un rfl ?_
      skip
      obtain rfl := h46_
      refine (does_pick (b := (icmp .eql el2.to 0)) (ev rfl) (ev rfl) (ev rfl)).mono ?_; rintro _ _ ⟨rfl, rfl⟩; refine ⟨?_, Ext.refl _⟩; rw [hβ3]; skip
      cases hbb : (icmp .eql el2.to 0) <;> simp [hbb] at h49_ ⊢
      all_goals (first | rfl | (subst h49_; rfl) | simp_all)
    refine RW_fin ?_; intro w101 E102 hP103
    obtain ⟨⟨⟨⟨⟨⟨⟨⟨-, -⟩, -⟩, -⟩, -⟩, -⟩, -⟩, -⟩, q104⟩ := hP103
    have X105 := Ext.gr X91 E102
    have q104 : v100 = (Bo β3) := q104
    obtain rfl := q104
    show wpList _ _ _ _ (fr [(.agg #[(Iv A_p.points), (Iv A_p.values), (.slice p3 A_p.steps.length q4)]), (Pt b7 0), (u43 2), (u43 3), (Pt b79 0), v16, v17, v18, v19, v20, v21, v22, v23, v24, v25, v26, v27, v28, v29, v30, v31, (Bo (β1 || (!β2))), (Pt b7 2), (.slice p3 A_p.steps.length q4), (Iv (A_p.steps.length : Int)), (Iv (k : Int)), (Bo (icmp .lss (k : Int) (A_p.steps.length : Int))), (u43 27), (u43 28), (u43 29), (u43 30), (u43 31), (u43 32), (u43 33), (u43 34), (Pt b7 2), (.slice p3 A_p.steps.length q4), (Pt b7 2), (.slice p3 A_p.steps.length q4), (Iv (A_p.steps.length : Int)), (Iv ((A_p.steps.length : Int) - 1)), (Pt b70 o71), (.agg #[(Iv el2.kind), (Iv el2.to), (Iv el2.a), (Iv el2.b), (Iv el2.node.kind), (Iv el2.node.a), (Iv el2.node.b), (.slice p76 el2.node.nums.length q77)]), v93, v94, v95, v96, v97, v98, v99, (Bo β3)]) _
    refine q_is rfl rfl (does_assign (u := (Bo β3)) (ev rfl)) (by dsimp only [List.set]; try rfl) ?_
    refine wpList_nil (hK92 _ _ ?_)
    refine wp_ret ?_
    refine ret_val (v := (Bo β3)) (res_T rfl (slot rfl)) X105 ?_
    try simp only [hβ1, hβ2, hel2, hβ3] at c38 c50
    have x106 : (progOk A_p) = β3 := by first | exact progOk_bad (by assumption) (by assumption) | exact progOk_fs (by assumption) | exact progOk_fi (by assumption) | (rw [progOk_ts (by assumption) hal (by omega), lastOk_of' (by assumption)]; first | done | (simp only [hβ1, hβ2, hel2, hβ3, c38, c50]; done)) | (rw [progOk_ti (by assumption) hal (by omega), lastOk_of' (by assumption)]; first | done | (simp only [hβ1, hβ2, hel2, hβ3, c38, c50]; done))
    exact (by first | rfl | rw [x106])

/- laws.FnExactValidProgram -/
theorem c_laws_FnExactValidProgram (p : List Value) (A_p : ProgT) (w : World) (hv_p : RProgT w A_p p) : Gives Try.prog 5 #[(.agg p.toArray)] w (fun v w' => v = (Bo true)) := by
  obtain ⟨y1, rfl, h2⟩ := hv_p
  have hs5 := h2; have hs5l := Sl.len h2; obtain ⟨p3, q4, rfl⟩ := Sl.shape h2
  refine enter [(.agg #[(Iv A_p.points), (Iv A_p.values), (.slice p3 A_p.steps.length q4)]), Ud, Ud, Ud, Ud, Ud, Ud, Ud, Ud, Ud, Ud, Ud, Ud, Ud, Ud, Ud, Ud, Ud, Ud, Ud, Ud, Ud, Ud, Ud, Ud, Ud, Ud] Try.func5 rfl Try.ntmps5 rfl ?_
  refine wp_seq_k fun K6 hK6 => ?_
  refine wp_region_lit ?_
  refine seqd rfl rfl (does_box (u := (.agg #[(Iv A_p.points), (Iv A_p.values), (.slice p3 A_p.steps.length q4)])) (ev rfl)) ?_; rintro _ w11 ⟨b7, rfl, hb8, hB9, E10⟩
  have g12 : w.heap.size ≤ b7 := Nat.le_trans (Below.size (Ext.refl w)) hb8
  change Blk _ _ [(Iv A_p.points), (Iv A_p.values), (.slice p3 A_p.steps.length q4)] at hB9
  have X13 := Ext.gr (Ext.refl w) E10
  show wpList _ _ _ _ (fr [(.agg #[(Iv A_p.points), (Iv A_p.values), (.slice p3 A_p.steps.length q4)]), (Pt b7 0), Ud, Ud, Ud, Ud, Ud, Ud, Ud, Ud, Ud, Ud, Ud, Ud, Ud, Ud, Ud, Ud, Ud, Ud, Ud, Ud, Ud, Ud, Ud, Ud, Ud]) _
  refine q_is rfl rfl (does_assign (u := (Bo false)) (ev rfl)) (by dsimp only [List.set]; try rfl) ?_
  refine wpList_nil (hK6 _ _ ?_)
  refine wp_seq_k fun K14 hK14 => ?_
  refine wp_region_lit ?_
  refine q_is rfl rfl (does_assign (u := (Iv 1048576)) (ev rfl)) (by dsimp only [List.set]; try rfl) ?_
  refine wpList_nil (hK14 _ _ ?_)
  refine wp_seq_k fun K15 hK15 => ?_
  refine wp_region_lit ?_
  refine q_is rfl rfl (does_loadAgg (cs := [(Iv A_p.points), (Iv A_p.values), (.slice p3 A_p.steps.length q4)]) (ev rfl) Try.isAgg33 Try.sizeOf33 (Blk.cells hB9) rfl) (by dsimp only [List.set]; try rfl) ?_
  refine q_is rfl rfl (does_move (u := (Iv 1048576)) (ev rfl)) (by dsimp only [List.set]; try rfl) ?_
  refine seqd rfl rfl (does_call (args := #[(.agg #[(Iv A_p.points), (Iv A_p.values), (.slice p3 A_p.steps.length q4)]), (Iv 1048576)]) cal15 (evs rfl) (c_laws_szProgram [(Iv A_p.points), (Iv A_p.values), (.slice p3 A_p.steps.length q4)] A_p 1048576 _ ⟨(.slice p3 A_p.steps.length q4), rfl, (Sl.ext hs5 RStepT.mono X13)⟩ (by omega) (by omega))) ?_; rintro _ w17 ⟨E16, ⟨i18, rfl, h19⟩⟩
  have X20 := Ext.gr X13 E16
  show wpList _ _ _ _ (fr [(.agg #[(Iv A_p.points), (Iv A_p.values), (.slice p3 A_p.steps.length q4)]), (Pt b7 0), (Bo false), (Iv 1048576), Ud, Ud, Ud, (.agg #[(Iv A_p.points), (Iv A_p.values), (.slice p3 A_p.steps.length q4)]), (Iv 1048576), (Iv i18), Ud, Ud, Ud, Ud, Ud, Ud, Ud, Ud, Ud, Ud, Ud, Ud, Ud, Ud, Ud, Ud, Ud]) _
  refine q_is rfl rfl (does_assign (u := (Iv i18)) (ev rfl)) (by dsimp only [List.set]; try rfl) ?_
  refine wpList_nil (hK15 _ _ ?_)
  refine wp_seq_k fun K21 hK21 => ?_
  refine wp_seq_k fun K22 hK22 => ?_
  refine wp_region_lit ?_
  refine q_is rfl rfl (does_move (u := (Iv i18)) (ev rfl)) (by dsimp only [List.set]; try rfl) ?_
  refine q_is rfl rfl (does_icmp (p := i18) (q := 0) (.inr (.inr (.inl rfl))) (ev rfl) (ev rfl)) (by dsimp only [List.set]; try rfl) ?_
  refine wpList_nil (hK22 _ _ ?_)
  refine wp_cond_split (t := icmp .lss i18 0) (ev rfl) (fun c23 => ?_) (fun c23 => ?_)
  · have c23' := c23
    (try simp only [icmp, Bool.and_eq_true, Bool.or_eq_true, Bool.and_eq_false_iff, Bool.or_eq_false_iff, Bool.not_eq_true', Bool.not_eq_false', decide_eq_true_eq, decide_eq_false_iff_not, beq_iff_eq, bne_iff_ne, beq_eq_false_iff_ne, bne_eq_false_iff_eq] at c23')
    refine wp_seq_k fun K24 hK24 => ?_
    refine wp_region_lit ?_
    refine q_is rfl rfl (does_assign (u := (Bo true)) (ev rfl)) (by dsimp only [List.set]; try rfl) ?_
    refine wpList_nil (hK24 _ _ ?_)
    refine wp_ret ?_
    dsimp only [Exit.then, Exit.inBlock]
    refine ret_val (v := (Bo true)) (res_T rfl (slot rfl)) X20 ?_
    exact rfl
  have c23' := c23
  (try simp only [icmp, Bool.and_eq_true, Bool.or_eq_true, Bool.and_eq_false_iff, Bool.or_eq_false_iff, Bool.not_eq_true', Bool.not_eq_false', decide_eq_true_eq, decide_eq_false_iff_not, beq_iff_eq, bne_iff_ne, beq_eq_false_iff_ne, bne_eq_false_iff_eq] at c23')
  refine wp_skip (hK21 _ _ ?_)
  refine wp_seq_k fun K25 hK25 => ?_
  refine wp_region_lit ?_
  refine q_is rfl rfl (does_loadAgg (cs := [(Iv A_p.points), (Iv A_p.values), (.slice p3 A_p.steps.length q4)]) (ev rfl) Try.isAgg33 Try.sizeOf33 (Blk.cells (hB9.ext E16)) rfl) (by dsimp only [List.set]; try rfl) ?_
  refine seqd rfl rfl (does_call (args := #[(.agg #[(Iv A_p.points), (Iv A_p.values), (.slice p3 A_p.steps.length q4)])]) cal17 (evs rfl) (c_laws_toProgram [(Iv A_p.points), (Iv A_p.values), (.slice p3 A_p.steps.length q4)] A_p _ ⟨(.slice p3 A_p.steps.length q4), rfl, (Sl.ext hs5 RStepT.mono X20)⟩ (by omega))) ?_; rintro _ w27 ⟨E26, ⟨cs29, rfl, hh28⟩⟩
  have X30 := Ext.gr X20 E26
  have n31 : b7 < w17.heap.size := Blk.lt (hB9.ext E16)
  obtain ⟨y32, rfl, h33⟩ := hh28.get
  have h33l := Sl.len h33; obtain ⟨p34, q35, rfl⟩ := Sl.shape h33
  have hh36 : Hang w17.heap.size w27 (fun u => Sl RStepT 8 u (.slice p34 A_p.steps.length q35) A_p.steps) := fun u hu => by obtain ⟨_, hq, _⟩ := hh28 u hu; cases hq; assumption
  show wpList _ _ _ _ (fr [(.agg #[(Iv A_p.points), (Iv A_p.values), (.slice p3 A_p.steps.length q4)]), (Pt b7 0), (Bo false), (Iv i18), Ud, Ud, Ud, (.agg #[(Iv A_p.points), (Iv A_p.values), (.slice p3 A_p.steps.length q4)]), (Iv 1048576), (Iv i18), (Iv i18), (Bo (icmp .lss i18 0)), (.agg #[(Iv A_p.points), (Iv A_p.values), (.slice p3 A_p.steps.length q4)]), (.agg #[(Iv A_p.points), (Iv A_p.values), (.slice p34 A_p.steps.length q35)]), Ud, Ud, Ud, Ud, Ud, Ud, Ud, Ud, Ud, Ud, Ud, Ud, Ud]) _
  refine seqd rfl rfl (does_call (args := #[(.agg #[(Iv A_p.points), (Iv A_p.values), (.slice p34 A_p.steps.length q35)])]) cal20 (evs rfl) (c_spec_ValidProgram [(Iv A_p.points), (Iv A_p.values), (.slice p34 A_p.steps.length q35)] A_p _ ⟨(.slice p34 A_p.steps.length q35), rfl, hh36.get⟩)) ?_; rintro _ w38 ⟨E37, rfl⟩
  have X39 := Ext.gr X30 E37
  show wpList _ _ _ _ (fr [(.agg #[(Iv A_p.points), (Iv A_p.values), (.slice p3 A_p.steps.length q4)]), (Pt b7 0), (Bo false), (Iv i18), Ud, Ud, Ud, (.agg #[(Iv A_p.points), (Iv A_p.values), (.slice p3 A_p.steps.length q4)]), (Iv 1048576), (Iv i18), (Iv i18), (Bo (icmp .lss i18 0)), (.agg #[(Iv A_p.points), (Iv A_p.values), (.slice p3 A_p.steps.length q4)]), (.agg #[(Iv A_p.points), (Iv A_p.values), (.slice p34 A_p.steps.length q35)]), (Bo (progOk A_p)), Ud, Ud, Ud, Ud, Ud, Ud, Ud, Ud, Ud, Ud, Ud, Ud]) _
  refine q_is rfl rfl (does_assign (u := (Bo (progOk A_p))) (ev rfl)) (by dsimp only [List.set]; try rfl) ?_
  refine wpList_nil (hK25 _ _ ?_)
  refine wp_seq_k fun K40 hK40 => ?_
  refine wp_region_lit ?_
  refine q_is rfl rfl (does_loadAgg (cs := [(Iv A_p.points), (Iv A_p.values), (.slice p3 A_p.steps.length q4)]) (ev rfl) Try.isAgg33 Try.sizeOf33 (Blk.cells (((hB9.ext E16).ext E26).ext E37)) rfl) (by dsimp only [List.set]; try rfl) ?_
  refine seqd rfl rfl (does_call (args := #[(.agg #[(Iv A_p.points), (Iv A_p.values), (.slice p3 A_p.steps.length q4)])]) cal17 (evs rfl) (c_laws_toProgram [(Iv A_p.points), (Iv A_p.values), (.slice p3 A_p.steps.length q4)] A_p _ ⟨(.slice p3 A_p.steps.length q4), rfl, (Sl.ext hs5 RStepT.mono X39)⟩ (by omega))) ?_; rintro _ w42 ⟨E41, ⟨cs44, rfl, hh43⟩⟩
  have X45 := Ext.gr X39 E41
  have n46 : b7 < w38.heap.size := Blk.lt (((hB9.ext E16).ext E26).ext E37)
  obtain ⟨y47, rfl, h48⟩ := hh43.get
  have h48l := Sl.len h48; obtain ⟨p49, q50, rfl⟩ := Sl.shape h48
  have hh51 : Hang w38.heap.size w42 (fun u => Sl RStepT 8 u (.slice p49 A_p.steps.length q50) A_p.steps) := fun u hu => by obtain ⟨_, hq, _⟩ := hh43 u hu; cases hq; assumption
  show wpList _ _ _ _ (fr [(.agg #[(Iv A_p.points), (Iv A_p.values), (.slice p3 A_p.steps.length q4)]), (Pt b7 0), (Bo false), (Iv i18), (Bo (progOk A_p)), Ud, Ud, (.agg #[(Iv A_p.points), (Iv A_p.values), (.slice p3 A_p.steps.length q4)]), (Iv 1048576), (Iv i18), (Iv i18), (Bo (icmp .lss i18 0)), (.agg #[(Iv A_p.points), (Iv A_p.values), (.slice p3 A_p.steps.length q4)]), (.agg #[(Iv A_p.points), (Iv A_p.values), (.slice p34 A_p.steps.length q35)]), (Bo (progOk A_p)), (.agg #[(Iv A_p.points), (Iv A_p.values), (.slice p3 A_p.steps.length q4)]), (.agg #[(Iv A_p.points), (Iv A_p.values), (.slice p49 A_p.steps.length q50)]), Ud, Ud, Ud, Ud, Ud, Ud, Ud, Ud, Ud, Ud]) _
  refine seqd rfl rfl (does_alloc z38) ?_; rintro _ w56 ⟨b52, rfl, hb53, hB54, E55⟩
  have n57 : b7 < b52 := Nat.lt_of_lt_of_le (Blk.lt ((((hB9.ext E16).ext E26).ext E37).ext E41)) hb53
  have g58 : w.heap.size ≤ b52 := Nat.le_trans (Below.size X45) hb53
  change Blk _ _ [(Iv 0), (Iv 0), (.slice none 0 0)] at hB54
  have X59 := Ext.gr X45 E55
  show wpList _ _ _ _ (fr [(.agg #[(Iv A_p.points), (Iv A_p.values), (.slice p3 A_p.steps.length q4)]), (Pt b7 0), (Bo false), (Iv i18), (Bo (progOk A_p)), (Pt b52 0), Ud, (.agg #[(Iv A_p.points), (Iv A_p.values), (.slice p3 A_p.steps.length q4)]), (Iv 1048576), (Iv i18), (Iv i18), (Bo (icmp .lss i18 0)), (.agg #[(Iv A_p.points), (Iv A_p.values), (.slice p3 A_p.steps.length q4)]), (.agg #[(Iv A_p.points), (Iv A_p.values), (.slice p34 A_p.steps.length q35)]), (Bo (progOk A_p)), (.agg #[(Iv A_p.points), (Iv A_p.values), (.slice p3 A_p.steps.length q4)]), (.agg #[(Iv A_p.points), (Iv A_p.values), (.slice p49 A_p.steps.length q50)]), Ud, Ud, Ud, Ud, Ud, Ud, Ud, Ud, Ud, Ud]) _
  refine seqn rfl rfl (does_store (n := 3) (cs := [(Iv 0), (Iv 0), (.slice none 0 0)]) (u := (.agg #[(Iv A_p.points), (Iv A_p.values), (.slice p49 A_p.steps.length q50)])) (ev rfl) (ev rfl) Try.sizeOf38 rfl hB54 (Nat.le_of_ble_eq_true rfl) rfl) ?_; rintro _ w62 ⟨rfl, W60, hB61⟩
  change Blk _ _ [(Iv A_p.points), (Iv A_p.values), (.slice p49 A_p.steps.length q50)] at hB61
  have X63 := Below.wr X59 W60 g58
  refine wpList_nil (hK40 _ _ ?_)
  refine wp_seq_k fun K64 hK64 => ?_
  refine wp_region_lit ?_
  refine q_is rfl rfl (does_loadAgg (cs := [(Iv A_p.points), (Iv A_p.values), (.slice p49 A_p.steps.length q50)]) (ev rfl) Try.isAgg38 Try.sizeOf38 (Blk.cells hB61) rfl) (by dsimp only [List.set]; try rfl) ?_
  refine seqd rfl rfl (does_call (args := #[(.agg #[(Iv A_p.points), (Iv A_p.values), (.slice p49 A_p.steps.length q50)])]) cal21 (evs rfl) (c_impl_ValidProgram [(Iv A_p.points), (Iv A_p.values), (.slice p49 A_p.steps.length q50)] A_p _ ⟨(.slice p49 A_p.steps.length q50), rfl, (hh51 _ (((Same.refl _ _).ext E55).wr W60 (.inr (Nat.le_trans (Below.size (Ext.refl _)) hb53))))⟩)) ?_; rintro _ w66 ⟨E65, rfl⟩
  have X67 := Ext.gr X63 E65
  show wpList _ _ _ _ (fr [(.agg #[(Iv A_p.points), (Iv A_p.values), (.slice p3 A_p.steps.length q4)]), (Pt b7 0), (Bo false), (Iv i18), (Bo (progOk A_p)), (Pt b52 0), Ud, (.agg #[(Iv A_p.points), (Iv A_p.values), (.slice p3 A_p.steps.length q4)]), (Iv 1048576), (Iv i18), (Iv i18), (Bo (icmp .lss i18 0)), (.agg #[(Iv A_p.points), (Iv A_p.values), (.slice p3 A_p.steps.length q4)]), (.agg #[(Iv A_p.points), (Iv A_p.values), (.slice p34 A_p.steps.length q35)]), (Bo (progOk A_p)), (.agg #[(Iv A_p.points), (Iv A_p.values), (.slice p3 A_p.steps.length q4)]), (.agg #[(Iv A_p.points), (Iv A_p.values), (.slice p49 A_p.steps.length q50)]), (.agg #[(Iv A_p.points), (Iv A_p.values), (.slice p49 A_p.steps.length q50)]), (Bo (progOk A_p)), Ud, Ud, Ud, Ud, Ud, Ud, Ud, Ud]) _
  refine q_is rfl rfl (does_assign (u := (Bo (progOk A_p))) (ev rfl)) (by dsimp only [List.set]; try rfl) ?_
  refine wpList_nil (hK64 _ _ ?_)
  refine wp_seq_k fun K68 hK68 => ?_
  refine wp_seq_k fun K69 hK69 => ?_
  refine wp_region_lit ?_
  refine q_is rfl rfl (does_move (u := (Bo (progOk A_p))) (ev rfl)) (by dsimp only [List.set]; try rfl) ?_
  refine q_is rfl rfl (does_move (u := (Bo (progOk A_p))) (ev rfl)) (by dsimp only [List.set]; try rfl) ?_
  refine q_is rfl rfl (does_bne (p := (progOk A_p)) (q := (progOk A_p)) Try.underlying4 (ev rfl) (ev rfl)) (by dsimp only [List.set]; try rfl) ?_
  refine wpList_nil (hK69 _ _ ?_)
  refine wp_cond_split (t := (progOk A_p) != (progOk A_p)) (ev rfl) (fun c70 => ?_) (fun c70 => ?_)
  · have c70' := c70
    refine wp_seq_k fun K71 hK71 => ?_
    refine wp_region_lit ?_
    refine q_is rfl rfl (does_assign (u := (Bo false)) (ev rfl)) (by dsimp only [List.set]; try rfl) ?_
    refine wpList_nil (hK71 _ _ ?_)
    refine wp_ret ?_
    dsimp only [Exit.then, Exit.inBlock]
    refine ret_val (v := (Bo false)) (res_T rfl (slot rfl)) X67 ?_
    have x72 : true = false := by first | with_reducible rfl | (simp only [samePr_self, bne_self_eq_false, icmp, c23, c70]; done) | (simp [samePr_self, bne_self_eq_false, icmp, c23, c70]; done) | (revert c23 c70; simp +contextual [samePr_self, bne_self_eq_false, icmp]; done) | (rcases c23' with hh | hh <;> simp only [hh, samePr_self, bne_self_eq_false, icmp, c23, c70]; done) | (rcases c70' with hh | hh <;> simp only [hh, samePr_self, bne_self_eq_false, icmp, c23, c70]; done) | (rcases c70' with hh | hh <;> simp_all [samePr_self, bne_self_eq_false, icmp]; done) | (rcases c70' with hh | hh | hh <;> simp_all [samePr_self, bne_self_eq_false, icmp]; done) | (rcases c70' with hh | hh | hh | hh <;> simp_all [samePr_self, bne_self_eq_false, icmp]; done) | (simp_all [samePr_self, bne_self_eq_false, icmp]; done) | rfl
    exact (by first | rfl | rw [x72])
  have c70' := c70
  refine wp_skip (hK68 _ _ ?_)
  refine wp_seq_k fun K73 hK73 => ?_
  refine wp_seq_k fun K74 hK74 => ?_
  refine region_draw (
    [Fact.pure [] (fun v => v = (.agg #[(Iv A_p.points), (Iv A_p.values), (.slice p49 A_p.steps.length q50)])),
    Fact.pure [] (fun v => v = (.agg #[(Iv A_p.points), (Iv A_p.values), (.slice p3 A_p.steps.length q4)])),
    Fact.mem [23] (fun v w' => ∃ cs_1 : List Value, v = (.agg cs_1.toArray) ∧ Hang w66.heap.size w' (fun u => RProgT u A_p cs_1)) (by rintro v w1 w2 hx ⟨z1, rfl, k0⟩; exact ⟨z1, rfl, (k0.ext hx)⟩),
    Fact.pure [22, 24] (fun v => v = (Bo (samePr A_p A_p))),
    Fact.pure [25] (fun v => v = (Bo (!(samePr A_p A_p))))]) mixed (by kernel_rfl) (by intro _ _ d _ _ h; cases d <;> exact h) ?_
  obtain ⟨w75, hw77⟩ : ∃ w', w' = World.drew w66 := ⟨_, rfl⟩; rw [← hw77]; have E76 : Ext w66 w75 := by rw [hw77]; exact Ext.draw _
  clear hw77
  have X78 := Ext.gr X67 E76
  refine RW_d _ rfl (fun v => by dsimp only [List.set]; try rfl) (fun u hu hF => ?_) (fun v79 => ?_)
  · clear hF
    refine doesG_un rfl ?_
    refine (does_loadAgg (cs := [(Iv A_p.points), (Iv A_p.values), (.slice p49 A_p.steps.length q50)]) (ev rfl) Try.isAgg38 Try.sizeOf38 (Blk.cells (((hB61.ext E65).ext E76).ext hu)) rfl).mono ?_; rintro _ _ ⟨rfl, rfl⟩
    exact ⟨rfl, Ext.refl _⟩
  refine RW_d _ rfl (fun v => by dsimp only [List.set]; try rfl) (fun u hu hF => ?_) (fun v80 => ?_)
  · clear hF
    refine doesG_un rfl ?_
    refine (does_loadAgg (cs := [(Iv A_p.points), (Iv A_p.values), (.slice p3 A_p.steps.length q4)]) (ev rfl) Try.isAgg33 Try.sizeOf33 (Blk.cells (((((((((hB9.ext E16).ext E26).ext E37).ext E41).ext E55).wr W60 (Nat.ne_of_lt n57)).ext E65).ext E76).ext hu)) rfl).mono ?_; rintro _ _ ⟨rfl, rfl⟩
    exact ⟨rfl, Ext.refl _⟩
  refine RW_d _ rfl (fun v => by dsimp only [List.set]; try rfl) (fun u hu hF => ?_) (fun v81 => ?_)
  · have h23_ : v80 = (.agg #[(Iv A_p.points), (Iv A_p.values), (.slice p3 A_p.steps.length q4)]) := hF.1
    clear hF
    refine doesG_un rfl ?_
    obtain rfl := h23_
    refine (does_call (args := #[(.agg #[(Iv A_p.points), (Iv A_p.values), (.slice p3 A_p.steps.length q4)])]) cal17 (evs rfl) (c_laws_toProgram [(Iv A_p.points), (Iv A_p.values), (.slice p3 A_p.steps.length q4)] A_p _ ⟨(.slice p3 A_p.steps.length q4), rfl, (Sl.ext (Sl.ext hs5 RStepT.mono (Ext.gr X67 E76)) RStepT.mono hu)⟩ (by omega))).mono ?_; rintro v u' ⟨hx, ⟨csn1, hv, k0⟩⟩
    exact ⟨⟨csn1, hv, (Hang.le k0 (Nat.le_trans (Below.size E76) (Below.size hu)))⟩, hx⟩
  refine RW_d _ rfl (fun v => by dsimp only [List.set]; try rfl) (fun u hu hF => ?_) (fun v82 => ?_)
  · have h22_ : v79 = (.agg #[(Iv A_p.points), (Iv A_p.values), (.slice p49 A_p.steps.length q50)]) := hF.1
    have h24_ : ∃ cs_1 : List Value, v81 = (.agg cs_1.toArray) ∧ Hang w66.heap.size u (fun u => RProgT u A_p cs_1) := hF.2.1
    clear hF
    refine doesG_un rfl ?_
    obtain rfl := h22_
    obtain ⟨cs24_2, rfl, hh24_1⟩ := h24_
    obtain ⟨y24_3, rfl, h24_4⟩ := hh24_1.get
    have hh24_4 := h24_4; obtain ⟨p24_5, q24_6, rfl⟩ := Sl.shape h24_4
    refine (does_call (args := #[(.agg #[(Iv A_p.points), (Iv A_p.values), (.slice p49 A_p.steps.length q50)]), (.agg #[(Iv A_p.points), (Iv A_p.values), (.slice p24_5 A_p.steps.length q24_6)])]) cal19 (evs rfl) (c_laws_eqProgram [(Iv A_p.points), (Iv A_p.values), (.slice p49 A_p.steps.length q50)] A_p [(Iv A_p.points), (Iv A_p.values), (.slice p24_5 A_p.steps.length q24_6)] A_p _ ⟨(.slice p49 A_p.steps.length q50), rfl, (Sl.ext (hh51 _ (((((Same.refl _ _).ext E55).wr W60 (.inr (Nat.le_trans (Below.size (Ext.refl _)) hb53))).ext E65).ext E76)) RStepT.mono hu)⟩ ⟨(.slice p24_5 A_p.steps.length q24_6), rfl, hh24_4⟩)).mono ?_; rintro v u' ⟨hx, hv⟩
    exact ⟨hv, hx⟩
  refine RW_d _ rfl (fun v => by dsimp only [List.set]; try rfl) (fun u hu hF => ?_) (fun v83 => ?_)
  · have h25_ : v82 = (Bo (samePr A_p A_p)) := hF.1
    clear hF
    refine doesG_un rfl ?_
    obtain rfl := h25_
    refine (does_not (ev rfl)).mono ?_; rintro _ _ ⟨rfl, rfl⟩
    exact ⟨rfl, Ext.refl _⟩
  refine RW_fin ?_; intro w84 E85 hP86
  obtain ⟨⟨⟨⟨⟨-, -⟩, -⟩, -⟩, -⟩, q87⟩ := hP86
  have X88 := Ext.gr X78 E85
  have q87 : v83 = (Bo (!(samePr A_p A_p))) := q87
  obtain rfl := q87
  show wpList _ _ _ _ (fr [(.agg #[(Iv A_p.points), (Iv A_p.values), (.slice p3 A_p.steps.length q4)]), (Pt b7 0), (Bo false), (Iv i18), (Bo (progOk A_p)), (Pt b52 0), (Bo (progOk A_p)), (.agg #[(Iv A_p.points), (Iv A_p.values), (.slice p3 A_p.steps.length q4)]), (Iv 1048576), (Iv i18), (Iv i18), (Bo (icmp .lss i18 0)), (.agg #[(Iv A_p.points), (Iv A_p.values), (.slice p3 A_p.steps.length q4)]), (.agg #[(Iv A_p.points), (Iv A_p.values), (.slice p34 A_p.steps.length q35)]), (Bo (progOk A_p)), (.agg #[(Iv A_p.points), (Iv A_p.values), (.slice p3 A_p.steps.length q4)]), (.agg #[(Iv A_p.points), (Iv A_p.values), (.slice p49 A_p.steps.length q50)]), (.agg #[(Iv A_p.points), (Iv A_p.values), (.slice p49 A_p.steps.length q50)]), (Bo (progOk A_p)), (Bo (progOk A_p)), (Bo (progOk A_p)), (Bo ((progOk A_p) != (progOk A_p))), v79, v80, v81, v82, (Bo (!(samePr A_p A_p)))]) _
  refine wpList_nil (hK74 _ _ ?_)
  refine wp_cond_split (t := !(samePr A_p A_p)) (ev rfl) (fun c89 => ?_) (fun c89 => ?_)
  · rw [Bool.not_eq_true'] at c89
    have c89' := c89
    refine wp_seq_k fun K90 hK90 => ?_
    refine wp_region_lit ?_
    refine q_is rfl rfl (does_assign (u := (Bo false)) (ev rfl)) (by dsimp only [List.set]; try rfl) ?_
    refine wpList_nil (hK90 _ _ ?_)
    refine wp_ret ?_
    dsimp only [Exit.then, Exit.inBlock]
    refine ret_val (v := (Bo false)) (res_T rfl (slot rfl)) X88 ?_
    have x91 : true = false := by first | with_reducible rfl | (simp only [samePr_self, bne_self_eq_false, icmp, c23, c70, c89]; done) | (simp [samePr_self, bne_self_eq_false, icmp, c23, c70, c89]; done) | (revert c23 c70 c89; simp +contextual [samePr_self, bne_self_eq_false, icmp]; done) | (rcases c23' with hh | hh <;> simp only [hh, samePr_self, bne_self_eq_false, icmp, c23, c70, c89]; done) | (rcases c70' with hh | hh <;> simp only [hh, samePr_self, bne_self_eq_false, icmp, c23, c70, c89]; done) | (rcases c89' with hh | hh <;> simp only [hh, samePr_self, bne_self_eq_false, icmp, c23, c70, c89]; done) | (rcases c89' with hh | hh <;> simp_all [samePr_self, bne_self_eq_false, icmp]; done) | (rcases c89' with hh | hh | hh <;> simp_all [samePr_self, bne_self_eq_false, icmp]; done) | (rcases c89' with hh | hh | hh | hh <;> simp_all [samePr_self, bne_self_eq_false, icmp]; done) | (simp_all [samePr_self, bne_self_eq_false, icmp]; done) | rfl
    exact (by first | rfl | rw [x91])
  rw [Bool.not_eq_false'] at c89
  have c89' := c89
  refine wp_skip (hK73 _ _ ?_)
  refine wp_seq_k fun K92 hK92 => ?_
  refine wp_region_lit ?_
  refine q_is rfl rfl (does_assign (u := (Bo true)) (ev rfl)) (by dsimp only [List.set]; try rfl) ?_
  refine wpList_nil (hK92 _ _ ?_)
  refine wp_ret ?_
  refine ret_val (v := (Bo true)) (res_T rfl (slot rfl)) X88 ?_
  exact rfl

/- spec.StepsOfKind -/
theorem c_spec_StepsOfKind (p : List Value) (A_p : ProgT) (kind : Int) (w : World) (hv_p : RProgT w A_p p) : Gives Try.prog 27 #[(.agg p.toArray), (Iv kind)] w (fun v w' => v = (.tuple #[(Iv (gvI (progOk A_p) (kindsTo A_p.steps kind A_p.steps.length))), (Bo (progOk A_p))])) := by
  obtain ⟨y1, rfl, h2⟩ := hv_p
  have hs5 := h2; have hs5l := Sl.len h2; obtain ⟨p3, q4, rfl⟩ := Sl.shape h2
  refine enter [(.agg #[(Iv A_p.points), (Iv A_p.values), (.slice p3 A_p.steps.length q4)]), (Iv kind), Ud, Ud, Ud, Ud, Ud, Ud, Ud, Ud, Ud, Ud, Ud, Ud, Ud, Ud, Ud, Ud, Ud, Ud, Ud, Ud, Ud, Ud, Ud, Ud, Ud, Ud] Try.func27 rfl Try.ntmps27 rfl ?_
  refine wp_seq_k fun K6 hK6 => ?_
  refine wp_region_lit ?_
  refine seqd rfl rfl (does_box (u := (.agg #[(Iv A_p.points), (Iv A_p.values), (.slice p3 A_p.steps.length q4)])) (ev rfl)) ?_; rintro _ w11 ⟨b7, rfl, hb8, hB9, E10⟩
  have g12 : w.heap.size ≤ b7 := Nat.le_trans (Below.size (Ext.refl w)) hb8
  change Blk _ _ [(Iv A_p.points), (Iv A_p.values), (.slice p3 A_p.steps.length q4)] at hB9
  have X13 := Ext.gr (Ext.refl w) E10
  show wpList _ _ _ _ (fr [(.agg #[(Iv A_p.points), (Iv A_p.values), (.slice p3 A_p.steps.length q4)]), (Iv kind), (Pt b7 0), Ud, Ud, Ud, Ud, Ud, Ud, Ud, Ud, Ud, Ud, Ud, Ud, Ud, Ud, Ud, Ud, Ud, Ud, Ud, Ud, Ud, Ud, Ud, Ud, Ud]) _
  refine q_is rfl rfl (does_assign (u := (Iv 0)) (ev rfl)) (by dsimp only [List.set]; try rfl) ?_
  refine q_is rfl rfl (does_assign (u := (Bo false)) (ev rfl)) (by dsimp only [List.set]; try rfl) ?_
  refine wpList_nil (hK6 _ _ ?_)
  refine wp_seq_k fun K14 hK14 => ?_
  refine wp_seq_k fun K15 hK15 => ?_
  refine wp_region_lit ?_
  refine seqd rfl rfl (does_call (args := #[(Pt b7 0)]) cal53 (evs rfl) (c_spec_l05Is b7 0 [(Iv A_p.points), (Iv A_p.values), (.slice p3 A_p.steps.length q4)] A_p _ (Blk.cells hB9) ⟨(.slice p3 A_p.steps.length q4), rfl, (Sl.ext hs5 RStepT.mono X13)⟩)) ?_; rintro _ w17 ⟨E16, rfl⟩
  have X18 := Ext.gr X13 E16
  show wpList _ _ _ _ (fr [(.agg #[(Iv A_p.points), (Iv A_p.values), (.slice p3 A_p.steps.length q4)]), (Iv kind), (Pt b7 0), Ud, (Iv 0), (Bo false), Ud, Ud, (Bo (progOk A_p)), Ud, Ud, Ud, Ud, Ud, Ud, Ud, Ud, Ud, Ud, Ud, Ud, Ud, Ud, Ud, Ud, Ud, Ud, Ud]) _
  refine q_is rfl rfl (does_not (ev rfl)) (by dsimp only [List.set]; try rfl) ?_
  refine wpList_nil (hK15 _ _ ?_)
  refine wp_cond_split (t := !(progOk A_p)) (ev rfl) (fun c19 => ?_) (fun c19 => ?_)
  · rw [Bool.not_eq_true'] at c19
    have c19' := c19
    refine wp_seq_k fun K20 hK20 => ?_
    refine wp_region_lit ?_
    refine q_is rfl rfl (does_assign (u := (Iv 0)) (ev rfl)) (by dsimp only [List.set]; try rfl) ?_
    refine q_is rfl rfl (does_assign (u := (Bo false)) (ev rfl)) (by dsimp only [List.set]; try rfl) ?_
    refine wpList_nil (hK20 _ _ ?_)
    refine wp_ret ?_
    dsimp only [Exit.then, Exit.inBlock]
    refine ret_val (v := (.tuple #[(Iv 0), (Bo false)])) (res_TT rfl (slot rfl) (slot rfl)) X18 ?_
    have x21 : (gvI (progOk A_p) (kindsTo A_p.steps kind A_p.steps.length) : Int) = 0 := by first | rfl | assumption | (rw [‹progOk A_p = false›]; rfl) | (rw [‹progOk A_p = true›, gvI_t, hn, show s.1 = A_p.steps.length by omega])
    have x22 : (progOk A_p) = false := by first | rfl | assumption | (rw [‹progOk A_p = false›]; rfl) | (rw [‹progOk A_p = true›, gvI_t, hn, show s.1 = A_p.steps.length by omega])
    exact (by first | rfl | rw [x21, x22])
  rw [Bool.not_eq_false'] at c19
  have c19' := c19
  refine wp_skip (hK14 _ _ ?_)
  refine wp_seq_k fun K23 hK23 => ?_
  refine wp_region_lit ?_
  refine q_is rfl rfl (does_assign (u := (Iv 0)) (ev rfl)) (by dsimp only [List.set]; try rfl) ?_
  refine wpList_nil (hK23 _ _ ?_)
  refine wp_seq_k fun K24 hK24 => ?_
  refine wp_seq_k fun K25 hK25 => ?_
  refine wp_region_lit ?_
  refine q_is rfl rfl (does_fieldAddr (ev rfl) fa38_2) (by dsimp only [List.set]; try rfl) ?_
  refine q_is rfl rfl (does_load (u := (.slice p3 A_p.steps.length q4)) (ev rfl) Try.isAgg36 (Cells.at (Blk.cells (hB9.ext E16)) 2 rfl)) (by dsimp only [List.set]; try rfl) ?_
  refine q_is rfl rfl (does_len_slice Try.underlying36 (ev rfl)) (by dsimp only [List.set]; try rfl) ?_
  refine q_is rfl rfl (does_move (u := (Iv 0)) (ev rfl)) (by dsimp only [List.set]; try rfl) ?_
  refine wpList_nil (hK25 _ _ ?_)
  refine wp_block ?_
  refine loop_ghost (σ := Nat × Int) (fun s a w' => ∃ u26 : Nat → Value, a = fr [(.agg #[(Iv A_p.points), (Iv A_p.values), (.slice p3 A_p.steps.length q4)]), (Iv kind), (Pt b7 0), Ud, (Iv 0), (Bo false), (Iv s.2), (u26 7), (Bo (progOk A_p)), (Bo (!(progOk A_p))), (Pt b7 2), (.slice p3 A_p.steps.length q4), (Iv (A_p.steps.length : Int)), (Iv (s.1 : Int)), (u26 14), (u26 15), (u26 16), (u26 17), (u26 18), (u26 19), (u26 20), (u26 21), (u26 22), (u26 23), (u26 24), (u26 25), (u26 26), Ud] ∧ Ext w17 w' ∧ (s.1 ≤ A_p.steps.length ∧ s.2 = kindsTo A_p.steps kind s.1)) (fun s => A_p.steps.length - s.1) (0, 0) ?_ ?_
  · refine ⟨fun t => (([(.agg #[(Iv A_p.points), (Iv A_p.values), (.slice p3 A_p.steps.length q4)]), (Iv kind), (Pt b7 0), Ud, (Iv 0), (Bo false), (Iv 0), Ud, (Bo (progOk A_p)), (Bo (!(progOk A_p))), (Pt b7 2), (.slice p3 A_p.steps.length q4), (Iv (A_p.steps.length : Int)), (Iv 0), Ud, Ud, Ud, Ud, Ud, Ud, Ud, Ud, Ud, Ud, Ud, Ud, Ud, Ud] : List Value)[t]?).getD undef, rfl, Ext.refl _, ?_⟩
    exact ⟨Nat.zero_le _, rfl⟩
  · rintro s a w27 ⟨u26, rfl, E28, ⟨hk, hn⟩⟩
    have X30 := Ext.gr X18 E28
    have hr := kindsTo_range A_p.steps kind s.1
    refine wp_seq_k fun K31 hK31 => ?_
    refine wp_region_lit ?_
    refine q_is rfl rfl (does_icmp (p := (s.1 : Int)) (q := (A_p.steps.length : Int)) (.inr (.inr (.inl rfl))) (ev rfl) (ev rfl)) (by dsimp only [List.set]; try rfl) ?_
    refine wpList_nil (hK31 _ _ ?_)
    refine wp_seq_k fun K32 hK32 => ?_
    refine wp_cond_split (t := icmp .lss (s.1 : Int) (A_p.steps.length : Int)) (ev rfl) (fun c33 => ?_) (fun c33 => ?_)
    · have c33' := c33
      (try simp only [icmp, Bool.and_eq_true, Bool.or_eq_true, Bool.and_eq_false_iff, Bool.or_eq_false_iff, Bool.not_eq_true', Bool.not_eq_false', decide_eq_true_eq, decide_eq_false_iff_not, beq_iff_eq, bne_iff_ne, beq_eq_false_iff_ne, bne_eq_false_iff_eq] at c33')
      refine wp_skip (hK32 _ _ ?_)
      refine wp_seq_k fun K34 hK34 => ?_
      refine wp_block ?_
      refine wp_seq_k fun K35 hK35 => ?_
      refine wp_region_lit ?_
      refine q_is rfl rfl (does_move (u := (Iv (s.1 : Int))) (ev rfl)) (by dsimp only [List.set]; try rfl) ?_
      refine q_is rfl rfl (does_assign (u := (Iv (s.1 : Int))) (ev rfl)) (by dsimp only [List.set]; try rfl) ?_
      refine wpList_nil (hK35 _ _ ?_)
      refine wp_seq_k fun K36 hK36 => ?_
      refine wp_region_lit ?_
      refine q_is rfl rfl (does_fieldAddr (ev rfl) fa38_2) (by dsimp only [List.set]; try rfl) ?_
      refine q_is rfl rfl (does_load (u := (.slice p3 A_p.steps.length q4)) (ev rfl) Try.isAgg36 (Cells.at (Blk.cells ((hB9.ext E16).ext E28)) 2 rfl)) (by dsimp only [List.set]; try rfl) ?_
      refine q_is rfl rfl (does_move (u := (Iv (s.1 : Int))) (ev rfl)) (by dsimp only [List.set]; try rfl) ?_
      obtain ⟨el1, hel1⟩ : ∃ e, A_p.steps[s.1]? = some e := ⟨_, List.getElem?_eq_getElem (by omega)⟩
      refine seqd rfl rfl (does_indexSl (R := RStepT) (i := (s.1 : Int)) (xs := A_p.steps) (e := el1) Try.underlying36 Try.sizeOf100 (ev rfl) (ev rfl) (Sl.ext hs5 RStepT.mono X30) (by omega) hel1) ?_; rintro _ w27 ⟨b37, o38, _, rfl, hc40, ⟨y41, rfl, h42⟩, rfl⟩
      have hs45 := h42; have hs45l := Sl.len h42; obtain ⟨p43, q44, rfl⟩ := Sl.shape h42
      show wpList _ _ _ _ (fr [(.agg #[(Iv A_p.points), (Iv A_p.values), (.slice p3 A_p.steps.length q4)]), (Iv kind), (Pt b7 0), Ud, (Iv 0), (Bo false), (Iv s.2), (Iv (s.1 : Int)), (Bo (progOk A_p)), (Bo (!(progOk A_p))), (Pt b7 2), (.slice p3 A_p.steps.length q4), (Iv (A_p.steps.length : Int)), (Iv (s.1 : Int)), (Bo (icmp .lss (s.1 : Int) (A_p.steps.length : Int))), (Iv (s.1 : Int)), (Pt b7 2), (.slice p3 A_p.steps.length q4), (Iv (s.1 : Int)), (Pt b37 o38), (u26 20), (u26 21), (u26 22), (u26 23), (u26 24), (u26 25), (u26 26), Ud]) _
      refine q_is rfl rfl (does_fieldAddr (ev rfl) fa100_0) (by dsimp only [List.set]; try rfl) ?_
      refine q_is rfl rfl (does_load (u := (Iv el1.kind)) (ev rfl) Try.isAgg2 (Cells.at hc40 0 rfl)) (by dsimp only [List.set]; try rfl) ?_
      refine q_is rfl rfl (does_move (u := (Iv kind)) (ev rfl)) (by dsimp only [List.set]; try rfl) ?_
      refine q_is rfl rfl (does_icmp (p := el1.kind) (q := kind) (.inl rfl) (ev rfl) (ev rfl)) (by dsimp only [List.set]; try rfl) ?_
      refine wpList_nil (hK36 _ _ ?_)
      refine wp_cond_split (t := icmp .eql el1.kind kind) (ev rfl) (fun c46 => ?_) (fun c46 => ?_)
      · have c46' := c46
        (try simp only [icmp, Bool.and_eq_true, Bool.or_eq_true, Bool.and_eq_false_iff, Bool.or_eq_false_iff, Bool.not_eq_true', Bool.not_eq_false', decide_eq_true_eq, decide_eq_false_iff_not, beq_iff_eq, bne_iff_ne, beq_eq_false_iff_ne, bne_eq_false_iff_eq] at c46')
        refine wp_region_lit ?_
        refine q_is rfl rfl (does_move (u := (Iv s.2)) (ev rfl)) (by dsimp only [List.set]; try rfl) ?_
        refine q_is rfl rfl (does_iarith (p := s.2) (q := 1) (r := s.2 + 1) (ev rfl) (ev rfl) (.inl ⟨rfl, (in_i64 (by omega) (by omega)).symm⟩)) (by dsimp only [List.set]; try rfl) ?_
        refine q_is rfl rfl (does_assign (u := (Iv (s.2 + 1))) (ev rfl)) (by dsimp only [List.set]; try rfl) ?_
        refine wpList_nil (hK34 _ _ ?_)
        refine wp_region_lit ?_
        refine q_is rfl rfl (does_iarith (p := (s.1 : Int)) (q := 1) (r := (s.1 : Int) + 1) (ev rfl) (ev rfl) (.inl ⟨rfl, (in_i64 (by omega) (by omega)).symm⟩)) (by dsimp only [List.set]; try rfl) ?_
        refine q_is rfl rfl (does_move (u := (Iv ((s.1 : Int) + 1))) (ev rfl)) (by dsimp only [List.set]; try rfl) ?_
        refine wpList_nil ?_
        refine ⟨(s.1 + 1, s.2 + 1), ⟨fun t => (([(.agg #[(Iv A_p.points), (Iv A_p.values), (.slice p3 A_p.steps.length q4)]), (Iv kind), (Pt b7 0), Ud, (Iv 0), (Bo false), (Iv (s.2 + 1)), (Iv (s.1 : Int)), (Bo (progOk A_p)), (Bo (!(progOk A_p))), (Pt b7 2), (.slice p3 A_p.steps.length q4), (Iv (A_p.steps.length : Int)), (Iv ((s.1 : Int) + 1)), (Bo (icmp .lss (s.1 : Int) (A_p.steps.length : Int))), (Iv (s.1 : Int)), (Pt b7 2), (.slice p3 A_p.steps.length q4), (Iv (s.1 : Int)), (Pt b37 o38), (Pt b37 o38), (Iv el1.kind), (Iv kind), (Bo (icmp .eql el1.kind kind)), (Iv s.2), (Iv (s.2 + 1)), (Iv ((s.1 : Int) + 1)), Ud] : List Value)[t]?).getD undef, ?_, E28, ?_⟩, ?_⟩
        · first | rfl | (simp only [Nat.cast_add, Nat.cast_one, Int.natCast_add, Int.natCast_one]; rfl)
        · (try dsimp only); first | exact ⟨by omega, kindsTo_more hn (by assumption) (by omega)⟩ | exact ⟨by omega, kindsTo_same hn (by assumption) (by omega)⟩
        · (try dsimp only); omega
      have c46' := c46
      (try simp only [icmp, Bool.and_eq_true, Bool.or_eq_true, Bool.and_eq_false_iff, Bool.or_eq_false_iff, Bool.not_eq_true', Bool.not_eq_false', decide_eq_true_eq, decide_eq_false_iff_not, beq_iff_eq, bne_iff_ne, beq_eq_false_iff_ne, bne_eq_false_iff_eq] at c46')
      refine wp_skip (hK34 _ _ ?_)
      refine wp_region_lit ?_
      refine q_is rfl rfl (does_iarith (p := (s.1 : Int)) (q := 1) (r := (s.1 : Int) + 1) (ev rfl) (ev rfl) (.inl ⟨rfl, (in_i64 (by omega) (by omega)).symm⟩)) (by dsimp only [List.set]; try rfl) ?_
      refine q_is rfl rfl (does_move (u := (Iv ((s.1 : Int) + 1))) (ev rfl)) (by dsimp only [List.set]; try rfl) ?_
      refine wpList_nil ?_
      refine ⟨(s.1 + 1, s.2), ⟨fun t => (([(.agg #[(Iv A_p.points), (Iv A_p.values), (.slice p3 A_p.steps.length q4)]), (Iv kind), (Pt b7 0), Ud, (Iv 0), (Bo false), (Iv s.2), (Iv (s.1 : Int)), (Bo (progOk A_p)), (Bo (!(progOk A_p))), (Pt b7 2), (.slice p3 A_p.steps.length q4), (Iv (A_p.steps.length : Int)), (Iv ((s.1 : Int) + 1)), (Bo (icmp .lss (s.1 : Int) (A_p.steps.length : Int))), (Iv (s.1 : Int)), (Pt b7 2), (.slice p3 A_p.steps.length q4), (Iv (s.1 : Int)), (Pt b37 o38), (Pt b37 o38), (Iv el1.kind), (Iv kind), (Bo (icmp .eql el1.kind kind)), (u26 24), (u26 25), (Iv ((s.1 : Int) + 1)), Ud] : List Value)[t]?).getD undef, ?_, E28, ?_⟩, ?_⟩
      · first | rfl | (simp only [Nat.cast_add, Nat.cast_one, Int.natCast_add, Int.natCast_one]; rfl)
      · (try dsimp only); first | exact ⟨by omega, kindsTo_more hn (by assumption) (by omega)⟩ | exact ⟨by omega, kindsTo_same hn (by assumption) (by omega)⟩
      · (try dsimp only); omega
    have c33' := c33
    (try simp only [icmp, Bool.and_eq_true, Bool.or_eq_true, Bool.and_eq_false_iff, Bool.or_eq_false_iff, Bool.not_eq_true', Bool.not_eq_false', decide_eq_true_eq, decide_eq_false_iff_not, beq_iff_eq, bne_iff_ne, beq_eq_false_iff_ne, bne_eq_false_iff_eq] at c33')
    refine wp_exit ?_
    refine hK24 _ _ ?_
    refine wp_seq_k fun K47 hK47 => ?_
    refine wp_region_lit ?_
    refine q_is rfl rfl (does_move (u := (Iv s.2)) (ev rfl)) (by dsimp only [List.set]; try rfl) ?_
    refine q_is rfl rfl (does_assign (u := (Iv s.2)) (ev rfl)) (by dsimp only [List.set]; try rfl) ?_
    refine q_is rfl rfl (does_assign (u := (Bo true)) (ev rfl)) (by dsimp only [List.set]; try rfl) ?_
    refine wpList_nil (hK47 _ _ ?_)
    refine wp_ret ?_
    refine ret_val (v := (.tuple #[(Iv s.2), (Bo true)])) (res_TT rfl (slot rfl) (slot rfl)) X30 ?_
    have x48 : (gvI (progOk A_p) (kindsTo A_p.steps kind A_p.steps.length) : Int) = s.2 := by first | rfl | assumption | (rw [‹progOk A_p = false›]; rfl) | (rw [‹progOk A_p = true›, gvI_t, hn, show s.1 = A_p.steps.length by omega])
    have x49 : (progOk A_p) = true := by first | rfl | assumption | (rw [‹progOk A_p = false›]; rfl) | (rw [‹progOk A_p = true›, gvI_t, hn, show s.1 = A_p.steps.length by omega])
    exact (by first | rfl | rw [x48, x49])

/- impl.StepsOfKind -/
theorem c_impl_StepsOfKind (p : List Value) (A_p : ProgT) (kind : Int) (w : World) (hv_p : RProgT w A_p p) : Gives Try.prog 28 #[(.agg p.toArray), (Iv kind)] w (fun v w' => v = (.tuple #[(Iv (gvI (progOk A_p) (kindsTo A_p.steps kind A_p.steps.length))), (Bo (progOk A_p))])) := by
  obtain ⟨y1, rfl, h2⟩ := hv_p
  have hs5 := h2; have hs5l := Sl.len h2; obtain ⟨p3, q4, rfl⟩ := Sl.shape h2
  refine enter [(.agg #[(Iv A_p.points), (Iv A_p.values), (.slice p3 A_p.steps.length q4)]), (Iv kind), Ud, Ud, Ud, Ud, Ud, Ud, Ud, Ud, Ud, Ud, Ud, Ud, Ud, Ud, Ud, Ud, Ud, Ud, Ud, Ud, Ud, Ud, Ud, Ud, Ud] Try.func28 rfl Try.ntmps28 rfl ?_
  refine wp_seq_k fun K6 hK6 => ?_
  refine wp_region_lit ?_
  refine seqd rfl rfl (does_box (u := (.agg #[(Iv A_p.points), (Iv A_p.values), (.slice p3 A_p.steps.length q4)])) (ev rfl)) ?_; rintro _ w11 ⟨b7, rfl, hb8, hB9, E10⟩
  have g12 : w.heap.size ≤ b7 := Nat.le_trans (Below.size (Ext.refl w)) hb8
  change Blk _ _ [(Iv A_p.points), (Iv A_p.values), (.slice p3 A_p.steps.length q4)] at hB9
  have X13 := Ext.gr (Ext.refl w) E10
  show wpList _ _ _ _ (fr [(.agg #[(Iv A_p.points), (Iv A_p.values), (.slice p3 A_p.steps.length q4)]), (Iv kind), (Pt b7 0), Ud, Ud, Ud, Ud, Ud, Ud, Ud, Ud, Ud, Ud, Ud, Ud, Ud, Ud, Ud, Ud, Ud, Ud, Ud, Ud, Ud, Ud, Ud, Ud]) _
  refine q_is rfl rfl (does_assign (u := (Iv 0)) (ev rfl)) (by dsimp only [List.set]; try rfl) ?_
  refine q_is rfl rfl (does_assign (u := (Bo false)) (ev rfl)) (by dsimp only [List.set]; try rfl) ?_
  refine wpList_nil (hK6 _ _ ?_)
  refine wp_seq_k fun K14 hK14 => ?_
  refine wp_seq_k fun K15 hK15 => ?_
  refine wp_region_lit ?_
  refine q_is rfl rfl (does_loadAgg (cs := [(Iv A_p.points), (Iv A_p.values), (.slice p3 A_p.steps.length q4)]) (ev rfl) Try.isAgg38 Try.sizeOf38 (Blk.cells hB9) rfl) (by dsimp only [List.set]; try rfl) ?_
  refine seqd rfl rfl (does_call (args := #[(.agg #[(Iv A_p.points), (Iv A_p.values), (.slice p3 A_p.steps.length q4)])]) cal21 (evs rfl) (c_impl_ValidProgram [(Iv A_p.points), (Iv A_p.values), (.slice p3 A_p.steps.length q4)] A_p _ ⟨(.slice p3 A_p.steps.length q4), rfl, (Sl.ext hs5 RStepT.mono X13)⟩)) ?_; rintro _ w17 ⟨E16, rfl⟩
  have X18 := Ext.gr X13 E16
  show wpList _ _ _ _ (fr [(.agg #[(Iv A_p.points), (Iv A_p.values), (.slice p3 A_p.steps.length q4)]), (Iv kind), (Pt b7 0), Ud, (Iv 0), (Bo false), Ud, Ud, Ud, (.agg #[(Iv A_p.points), (Iv A_p.values), (.slice p3 A_p.steps.length q4)]), (Bo (progOk A_p)), Ud, Ud, Ud, Ud, Ud, Ud, Ud, Ud, Ud, Ud, Ud, Ud, Ud, Ud, Ud, Ud]) _
  refine q_is rfl rfl (does_not (ev rfl)) (by dsimp only [List.set]; try rfl) ?_
  refine wpList_nil (hK15 _ _ ?_)
  refine wp_cond_split (t := !(progOk A_p)) (ev rfl) (fun c19 => ?_) (fun c19 => ?_)
  · rw [Bool.not_eq_true'] at c19
    have c19' := c19
    refine wp_seq_k fun K20 hK20 => ?_
    refine wp_region_lit ?_
    refine q_is rfl rfl (does_assign (u := (Iv 0)) (ev rfl)) (by dsimp only [List.set]; try rfl) ?_
    refine q_is rfl rfl (does_assign (u := (Bo false)) (ev rfl)) (by dsimp only [List.set]; try rfl) ?_
    refine wpList_nil (hK20 _ _ ?_)
    refine wp_ret ?_
    dsimp only [Exit.then, Exit.inBlock]
    refine ret_val (v := (.tuple #[(Iv 0), (Bo false)])) (res_TT rfl (slot rfl) (slot rfl)) X18 ?_
    have x21 : (gvI (progOk A_p) (kindsTo A_p.steps kind A_p.steps.length) : Int) = 0 := by first | rfl | assumption | (rw [‹progOk A_p = false›]; rfl) | (rw [‹progOk A_p = true›, gvI_t, hn, show s.1 = A_p.steps.length by omega])
    have x22 : (progOk A_p) = false := by first | rfl | assumption | (rw [‹progOk A_p = false›]; rfl) | (rw [‹progOk A_p = true›, gvI_t, hn, show s.1 = A_p.steps.length by omega])
    exact (by first | rfl | rw [x21, x22])
  rw [Bool.not_eq_false'] at c19
  have c19' := c19
  refine wp_skip (hK14 _ _ ?_)
  refine wp_seq_k fun K23 hK23 => ?_
  refine wp_region_lit ?_
  refine q_is rfl rfl (does_assign (u := (Iv 0)) (ev rfl)) (by dsimp only [List.set]; try rfl) ?_
  refine wpList_nil (hK23 _ _ ?_)
  refine wp_seq_k fun K24 hK24 => ?_
  refine wp_seq_k fun K25 hK25 => ?_
  refine wp_region_lit ?_
  refine q_is rfl rfl (does_fieldAddr (ev rfl) fa38_2) (by dsimp only [List.set]; try rfl) ?_
  refine q_is rfl rfl (does_load (u := (.slice p3 A_p.steps.length q4)) (ev rfl) Try.isAgg36 (Cells.at (Blk.cells (hB9.ext E16)) 2 rfl)) (by dsimp only [List.set]; try rfl) ?_
  refine q_is rfl rfl (does_len_slice Try.underlying36 (ev rfl)) (by dsimp only [List.set]; try rfl) ?_
  refine q_is rfl rfl (does_move (u := (Iv 0)) (ev rfl)) (by dsimp only [List.set]; try rfl) ?_
  refine wpList_nil (hK25 _ _ ?_)
  refine wp_block ?_
  refine loop_ghost (σ := Nat × Int) (fun s a w' => ∃ u26 : Nat → Value, a = fr [(.agg #[(Iv A_p.points), (Iv A_p.values), (.slice p3 A_p.steps.length q4)]), (Iv kind), (Pt b7 0), Ud, (Iv 0), (Bo false), (Iv s.2), Ud, (u26 8), (.agg #[(Iv A_p.points), (Iv A_p.values), (.slice p3 A_p.steps.length q4)]), (Bo (progOk A_p)), (Bo (!(progOk A_p))), (Pt b7 2), (.slice p3 A_p.steps.length q4), (Iv (A_p.steps.length : Int)), (Iv (s.1 : Int)), (u26 16), (u26 17), (u26 18), (u26 19), (u26 20), (u26 21), (u26 22), (u26 23), (u26 24), (u26 25), Ud] ∧ Ext w17 w' ∧ (s.1 ≤ A_p.steps.length ∧ s.2 = kindsTo A_p.steps kind s.1)) (fun s => A_p.steps.length - s.1) (0, 0) ?_ ?_
  · refine ⟨fun t => (([(.agg #[(Iv A_p.points), (Iv A_p.values), (.slice p3 A_p.steps.length q4)]), (Iv kind), (Pt b7 0), Ud, (Iv 0), (Bo false), (Iv 0), Ud, Ud, (.agg #[(Iv A_p.points), (Iv A_p.values), (.slice p3 A_p.steps.length q4)]), (Bo (progOk A_p)), (Bo (!(progOk A_p))), (Pt b7 2), (.slice p3 A_p.steps.length q4), (Iv (A_p.steps.length : Int)), (Iv 0), Ud, Ud, Ud, Ud, Ud, Ud, Ud, Ud, Ud, Ud, Ud] : List Value)[t]?).getD undef, rfl, Ext.refl _, ?_⟩
    exact ⟨Nat.zero_le _, rfl⟩
  · rintro s a w27 ⟨u26, rfl, E28, ⟨hk, hn⟩⟩
    have X30 := Ext.gr X18 E28
    have hr := kindsTo_range A_p.steps kind s.1
    refine wp_seq_k fun K31 hK31 => ?_
    refine wp_region_lit ?_
    refine q_is rfl rfl (does_icmp (p := (s.1 : Int)) (q := (A_p.steps.length : Int)) (.inr (.inr (.inl rfl))) (ev rfl) (ev rfl)) (by dsimp only [List.set]; try rfl) ?_
    refine wpList_nil (hK31 _ _ ?_)
    refine wp_seq_k fun K32 hK32 => ?_
    refine wp_cond_split (t := icmp .lss (s.1 : Int) (A_p.steps.length : Int)) (ev rfl) (fun c33 => ?_) (fun c33 => ?_)
    · have c33' := c33
      (try simp only [icmp, Bool.and_eq_true, Bool.or_eq_true, Bool.and_eq_false_iff, Bool.or_eq_false_iff, Bool.not_eq_true', Bool.not_eq_false', decide_eq_true_eq, decide_eq_false_iff_not, beq_iff_eq, bne_iff_ne, beq_eq_false_iff_ne, bne_eq_false_iff_eq] at c33')
      refine wp_skip (hK32 _ _ ?_)
      refine wp_seq_k fun K34 hK34 => ?_
      refine wp_block ?_
      refine wp_seq_k fun K35 hK35 => ?_
      refine wp_region_lit ?_
      obtain ⟨el1, hel1⟩ : ∃ e, A_p.steps[s.1]? = some e := ⟨_, List.getElem?_eq_getElem (by omega)⟩
      refine seqd rfl rfl (does_indexSl (R := RStepT) (i := (s.1 : Int)) (xs := A_p.steps) (e := el1) Try.underlying36 Try.sizeOf100 (ev rfl) (ev rfl) (Sl.ext hs5 RStepT.mono X30) (by omega) hel1) ?_; rintro _ w27 ⟨b36, o37, _, rfl, hc39, ⟨y40, rfl, h41⟩, rfl⟩
      have hs44 := h41; have hs44l := Sl.len h41; obtain ⟨p42, q43, rfl⟩ := Sl.shape h41
      show wpList _ _ _ _ (fr [(.agg #[(Iv A_p.points), (Iv A_p.values), (.slice p3 A_p.steps.length q4)]), (Iv kind), (Pt b7 0), Ud, (Iv 0), (Bo false), (Iv s.2), Ud, (u26 8), (.agg #[(Iv A_p.points), (Iv A_p.values), (.slice p3 A_p.steps.length q4)]), (Bo (progOk A_p)), (Bo (!(progOk A_p))), (Pt b7 2), (.slice p3 A_p.steps.length q4), (Iv (A_p.steps.length : Int)), (Iv (s.1 : Int)), (Bo (icmp .lss (s.1 : Int) (A_p.steps.length : Int))), (Pt b36 o37), (u26 18), (u26 19), (u26 20), (u26 21), (u26 22), (u26 23), (u26 24), (u26 25), Ud]) _
      refine q_is rfl rfl (does_loadAgg (cs := [(Iv el1.kind), (Iv el1.to), (Iv el1.a), (Iv el1.b), (Iv el1.node.kind), (Iv el1.node.a), (Iv el1.node.b), (.slice p42 el1.node.nums.length q43)]) (ev rfl) Try.isAgg100 Try.sizeOf100 hc39 rfl) (by dsimp only [List.set]; try rfl) ?_
      refine seqd rfl rfl (does_alloc z100) ?_; rintro _ w49 ⟨b45, rfl, hb46, hB47, E48⟩
      have n50 : b7 < b45 := Nat.lt_of_lt_of_le (Blk.lt ((hB9.ext E16).ext E28)) hb46
      have n51 : b36 < b45 := Nat.lt_of_lt_of_le (cell_lt (Cells.at hc39 0 rfl)) hb46
      have g52 : w.heap.size ≤ b45 := Nat.le_trans (Below.size X30) hb46
      change Blk _ _ [(Iv 0), (Iv 0), (Iv 0), (Iv 0), (Iv 0), (Iv 0), (Iv 0), (.slice none 0 0)] at hB47
      have X53 := Ext.gr X30 E48
      show wpList _ _ _ _ (fr [(.agg #[(Iv A_p.points), (Iv A_p.values), (.slice p3 A_p.steps.length q4)]), (Iv kind), (Pt b7 0), Ud, (Iv 0), (Bo false), (Iv s.2), Ud, (Pt b45 0), (.agg #[(Iv A_p.points), (Iv A_p.values), (.slice p3 A_p.steps.length q4)]), (Bo (progOk A_p)), (Bo (!(progOk A_p))), (Pt b7 2), (.slice p3 A_p.steps.length q4), (Iv (A_p.steps.length : Int)), (Iv (s.1 : Int)), (Bo (icmp .lss (s.1 : Int) (A_p.steps.length : Int))), (Pt b36 o37), (.agg #[(Iv el1.kind), (Iv el1.to), (Iv el1.a), (Iv el1.b), (Iv el1.node.kind), (Iv el1.node.a), (Iv el1.node.b), (.slice p42 el1.node.nums.length q43)]), (u26 19), (u26 20), (u26 21), (u26 22), (u26 23), (u26 24), (u26 25), Ud]) _
      refine seqn rfl rfl (does_store (n := 8) (cs := [(Iv 0), (Iv 0), (Iv 0), (Iv 0), (Iv 0), (Iv 0), (Iv 0), (.slice none 0 0)]) (u := (.agg #[(Iv el1.kind), (Iv el1.to), (Iv el1.a), (Iv el1.b), (Iv el1.node.kind), (Iv el1.node.a), (Iv el1.node.b), (.slice p42 el1.node.nums.length q43)])) (ev rfl) (ev rfl) Try.sizeOf100 rfl hB47 (Nat.le_of_ble_eq_true rfl) rfl) ?_; rintro _ w56 ⟨rfl, W54, hB55⟩
      change Blk _ _ [(Iv el1.kind), (Iv el1.to), (Iv el1.a), (Iv el1.b), (Iv el1.node.kind), (Iv el1.node.a), (Iv el1.node.b), (.slice p42 el1.node.nums.length q43)] at hB55
      have X57 := Below.wr X53 W54 g52
      refine wpList_nil (hK35 _ _ ?_)
      refine wp_seq_k fun K58 hK58 => ?_
      refine wp_region_lit ?_
      refine q_is rfl rfl (does_fieldAddr (ev rfl) fa100_0) (by dsimp only [List.set]; try rfl) ?_
      refine q_is rfl rfl (does_load (u := (Iv el1.kind)) (ev rfl) Try.isAgg2 (Cells.at (Blk.cells hB55) 0 rfl)) (by dsimp only [List.set]; try rfl) ?_
      refine q_is rfl rfl (does_move (u := (Iv kind)) (ev rfl)) (by dsimp only [List.set]; try rfl) ?_
      refine q_is rfl rfl (does_icmp (p := el1.kind) (q := kind) (.inl rfl) (ev rfl) (ev rfl)) (by dsimp only [List.set]; try rfl) ?_
      refine wpList_nil (hK58 _ _ ?_)
      refine wp_cond_split (t := icmp .eql el1.kind kind) (ev rfl) (fun c59 => ?_) (fun c59 => ?_)
      · have c59' := c59
        (try simp only [icmp, Bool.and_eq_true, Bool.or_eq_true, Bool.and_eq_false_iff, Bool.or_eq_false_iff, Bool.not_eq_true', Bool.not_eq_false', decide_eq_true_eq, decide_eq_false_iff_not, beq_iff_eq, bne_iff_ne, beq_eq_false_iff_ne, bne_eq_false_iff_eq] at c59')
        refine wp_region_lit ?_
        refine q_is rfl rfl (does_move (u := (Iv s.2)) (ev rfl)) (by dsimp only [List.set]; try rfl) ?_
        refine q_is rfl rfl (does_iarith (p := s.2) (q := 1) (r := s.2 + 1) (ev rfl) (ev rfl) (.inl ⟨rfl, (in_i64 (by omega) (by omega)).symm⟩)) (by dsimp only [List.set]; try rfl) ?_
        refine q_is rfl rfl (does_assign (u := (Iv (s.2 + 1))) (ev rfl)) (by dsimp only [List.set]; try rfl) ?_
        refine wpList_nil (hK34 _ _ ?_)
        refine wp_region_lit ?_
        refine q_is rfl rfl (does_iarith (p := (s.1 : Int)) (q := 1) (r := (s.1 : Int) + 1) (ev rfl) (ev rfl) (.inl ⟨rfl, (in_i64 (by omega) (by omega)).symm⟩)) (by dsimp only [List.set]; try rfl) ?_
        refine q_is rfl rfl (does_move (u := (Iv ((s.1 : Int) + 1))) (ev rfl)) (by dsimp only [List.set]; try rfl) ?_
        refine wpList_nil ?_
        refine ⟨(s.1 + 1, s.2 + 1), ⟨fun t => (([(.agg #[(Iv A_p.points), (Iv A_p.values), (.slice p3 A_p.steps.length q4)]), (Iv kind), (Pt b7 0), Ud, (Iv 0), (Bo false), (Iv (s.2 + 1)), Ud, (Pt b45 0), (.agg #[(Iv A_p.points), (Iv A_p.values), (.slice p3 A_p.steps.length q4)]), (Bo (progOk A_p)), (Bo (!(progOk A_p))), (Pt b7 2), (.slice p3 A_p.steps.length q4), (Iv (A_p.steps.length : Int)), (Iv ((s.1 : Int) + 1)), (Bo (icmp .lss (s.1 : Int) (A_p.steps.length : Int))), (Pt b36 o37), (.agg #[(Iv el1.kind), (Iv el1.to), (Iv el1.a), (Iv el1.b), (Iv el1.node.kind), (Iv el1.node.a), (Iv el1.node.b), (.slice p42 el1.node.nums.length q43)]), (Pt b45 0), (Iv el1.kind), (Iv kind), (Bo (icmp .eql el1.kind kind)), (Iv s.2), (Iv (s.2 + 1)), (Iv ((s.1 : Int) + 1)), Ud] : List Value)[t]?).getD undef, ?_, (Below.kl (Ext.gr E28 E48) (KpL.of_wr W54) (allS (Nat.le_trans E28.size hb46) all0) (Nat.le_refl _)), ?_⟩, ?_⟩
        · first | rfl | (simp only [Nat.cast_add, Nat.cast_one, Int.natCast_add, Int.natCast_one]; rfl)
        · (try dsimp only); first | exact ⟨by omega, kindsTo_more hn (by assumption) (by omega)⟩ | exact ⟨by omega, kindsTo_same hn (by assumption) (by omega)⟩
        · (try dsimp only); omega
      have c59' := c59
      (try simp only [icmp, Bool.and_eq_true, Bool.or_eq_true, Bool.and_eq_false_iff, Bool.or_eq_false_iff, Bool.not_eq_true', Bool.not_eq_false', decide_eq_true_eq, decide_eq_false_iff_not, beq_iff_eq, bne_iff_ne, beq_eq_false_iff_ne, bne_eq_false_iff_eq] at c59')
      refine wp_skip (hK34 _ _ ?_)
      refine wp_region_lit ?_
      refine q_is rfl rfl (does_iarith (p := (s.1 : Int)) (q := 1) (r := (s.1 : Int) + 1) (ev rfl) (ev rfl) (.inl ⟨rfl, (in_i64 (by omega) (by omega)).symm⟩)) (by dsimp only [List.set]; try rfl) ?_
      refine q_is rfl rfl (does_move (u := (Iv ((s.1 : Int) + 1))) (ev rfl)) (by dsimp only [List.set]; try rfl) ?_
      refine wpList_nil ?_
      refine ⟨(s.1 + 1, s.2), ⟨fun t => (([(.agg #[(Iv A_p.points), (Iv A_p.values), (.slice p3 A_p.steps.length q4)]), (Iv kind), (Pt b7 0), Ud, (Iv 0), (Bo false), (Iv s.2), Ud, (Pt b45 0), (.agg #[(Iv A_p.points), (Iv A_p.values), (.slice p3 A_p.steps.length q4)]), (Bo (progOk A_p)), (Bo (!(progOk A_p))), (Pt b7 2), (.slice p3 A_p.steps.length q4), (Iv (A_p.steps.length : Int)), (Iv ((s.1 : Int) + 1)), (Bo (icmp .lss (s.1 : Int) (A_p.steps.length : Int))), (Pt b36 o37), (.agg #[(Iv el1.kind), (Iv el1.to), (Iv el1.a), (Iv el1.b), (Iv el1.node.kind), (Iv el1.node.a), (Iv el1.node.b), (.slice p42 el1.node.nums.length q43)]), (Pt b45 0), (Iv el1.kind), (Iv kind), (Bo (icmp .eql el1.kind kind)), (u26 23), (u26 24), (Iv ((s.1 : Int) + 1)), Ud] : List Value)[t]?).getD undef, ?_, (Below.kl (Ext.gr E28 E48) (KpL.of_wr W54) (allS (Nat.le_trans E28.size hb46) all0) (Nat.le_refl _)), ?_⟩, ?_⟩
      · first | rfl | (simp only [Nat.cast_add, Nat.cast_one, Int.natCast_add, Int.natCast_one]; rfl)
      · (try dsimp only); first | exact ⟨by omega, kindsTo_more hn (by assumption) (by omega)⟩ | exact ⟨by omega, kindsTo_same hn (by assumption) (by omega)⟩
      · (try dsimp only); omega
    have c33' := c33
    (try simp only [icmp, Bool.and_eq_true, Bool.or_eq_true, Bool.and_eq_false_iff, Bool.or_eq_false_iff, Bool.not_eq_true', Bool.not_eq_false', decide_eq_true_eq, decide_eq_false_iff_not, beq_iff_eq, bne_iff_ne, beq_eq_false_iff_ne, bne_eq_false_iff_eq] at c33')
    refine wp_exit ?_
    refine hK24 _ _ ?_
    refine wp_seq_k fun K60 hK60 => ?_
    refine wp_region_lit ?_
    refine q_is rfl rfl (does_move (u := (Iv s.2)) (ev rfl)) (by dsimp only [List.set]; try rfl) ?_
    refine q_is rfl rfl (does_assign (u := (Iv s.2)) (ev rfl)) (by dsimp only [List.set]; try rfl) ?_
    refine q_is rfl rfl (does_assign (u := (Bo true)) (ev rfl)) (by dsimp only [List.set]; try rfl) ?_
    refine wpList_nil (hK60 _ _ ?_)
    refine wp_ret ?_
    refine ret_val (v := (.tuple #[(Iv s.2), (Bo true)])) (res_TT rfl (slot rfl) (slot rfl)) X30 ?_
    have x61 : (gvI (progOk A_p) (kindsTo A_p.steps kind A_p.steps.length) : Int) = s.2 := by first | rfl | assumption | (rw [‹progOk A_p = false›]; rfl) | (rw [‹progOk A_p = true›, gvI_t, hn, show s.1 = A_p.steps.length by omega])
    have x62 : (progOk A_p) = true := by first | rfl | assumption | (rw [‹progOk A_p = false›]; rfl) | (rw [‹progOk A_p = true›, gvI_t, hn, show s.1 = A_p.steps.length by omega])
    exact (by first | rfl | rw [x61, x62])

/- laws.FnExactStepsOfKind -/
theorem c_laws_FnExactStepsOfKind (p : List Value) (A_p : ProgT) (kind : Int) (w : World) (hv_p : RProgT w A_p p) : Gives Try.prog 7 #[(.agg p.toArray), (Iv kind)] w (fun v w' => v = (Bo true)) := by
  obtain ⟨y1, rfl, h2⟩ := hv_p
  have hs5 := h2; have hs5l := Sl.len h2; obtain ⟨p3, q4, rfl⟩ := Sl.shape h2
  refine enter [(.agg #[(Iv A_p.points), (Iv A_p.values), (.slice p3 A_p.steps.length q4)]), (Iv kind), Ud, Ud, Ud, Ud, Ud, Ud, Ud, Ud, Ud, Ud, Ud, Ud, Ud, Ud, Ud, Ud, Ud, Ud, Ud, Ud, Ud, Ud, Ud, Ud, Ud, Ud, Ud, Ud, Ud, Ud, Ud, Ud, Ud, Ud, Ud, Ud, Ud, Ud, Ud, Ud, Ud, Ud] Try.func7 rfl Try.ntmps7 rfl ?_
  refine wp_seq_k fun K6 hK6 => ?_
  refine wp_region_lit ?_
  refine seqd rfl rfl (does_box (u := (.agg #[(Iv A_p.points), (Iv A_p.values), (.slice p3 A_p.steps.length q4)])) (ev rfl)) ?_; rintro _ w11 ⟨b7, rfl, hb8, hB9, E10⟩
  have g12 : w.heap.size ≤ b7 := Nat.le_trans (Below.size (Ext.refl w)) hb8
  change Blk _ _ [(Iv A_p.points), (Iv A_p.values), (.slice p3 A_p.steps.length q4)] at hB9
  have X13 := Ext.gr (Ext.refl w) E10
  show wpList _ _ _ _ (fr [(.agg #[(Iv A_p.points), (Iv A_p.values), (.slice p3 A_p.steps.length q4)]), (Iv kind), (Pt b7 0), Ud, Ud, Ud, Ud, Ud, Ud, Ud, Ud, Ud, Ud, Ud, Ud, Ud, Ud, Ud, Ud, Ud, Ud, Ud, Ud, Ud, Ud, Ud, Ud, Ud, Ud, Ud, Ud, Ud, Ud, Ud, Ud, Ud, Ud, Ud, Ud, Ud, Ud, Ud, Ud, Ud]) _
  refine q_is rfl rfl (does_assign (u := (Bo false)) (ev rfl)) (by dsimp only [List.set]; try rfl) ?_
  refine wpList_nil (hK6 _ _ ?_)
  refine wp_seq_k fun K14 hK14 => ?_
  refine wp_region_lit ?_
  refine q_is rfl rfl (does_assign (u := (Iv 1048576)) (ev rfl)) (by dsimp only [List.set]; try rfl) ?_
  refine wpList_nil (hK14 _ _ ?_)
  refine wp_seq_k fun K15 hK15 => ?_
  refine wp_region_lit ?_
  refine q_is rfl rfl (does_loadAgg (cs := [(Iv A_p.points), (Iv A_p.values), (.slice p3 A_p.steps.length q4)]) (ev rfl) Try.isAgg33 Try.sizeOf33 (Blk.cells hB9) rfl) (by dsimp only [List.set]; try rfl) ?_
  refine q_is rfl rfl (does_move (u := (Iv 1048576)) (ev rfl)) (by dsimp only [List.set]; try rfl) ?_
  refine seqd rfl rfl (does_call (args := #[(.agg #[(Iv A_p.points), (Iv A_p.values), (.slice p3 A_p.steps.length q4)]), (Iv 1048576)]) cal15 (evs rfl) (c_laws_szProgram [(Iv A_p.points), (Iv A_p.values), (.slice p3 A_p.steps.length q4)] A_p 1048576 _ ⟨(.slice p3 A_p.steps.length q4), rfl, (Sl.ext hs5 RStepT.mono X13)⟩ (by omega) (by omega))) ?_; rintro _ w17 ⟨E16, ⟨i18, rfl, h19⟩⟩
  have X20 := Ext.gr X13 E16
  show wpList _ _ _ _ (fr [(.agg #[(Iv A_p.points), (Iv A_p.values), (.slice p3 A_p.steps.length q4)]), (Iv kind), (Pt b7 0), Ud, (Bo false), (Iv 1048576), Ud, Ud, Ud, Ud, Ud, (.agg #[(Iv A_p.points), (Iv A_p.values), (.slice p3 A_p.steps.length q4)]), (Iv 1048576), (Iv i18), Ud, Ud, Ud, Ud, Ud, Ud, Ud, Ud, Ud, Ud, Ud, Ud, Ud, Ud, Ud, Ud, Ud, Ud, Ud, Ud, Ud, Ud, Ud, Ud, Ud, Ud, Ud, Ud, Ud, Ud]) _
  refine q_is rfl rfl (does_assign (u := (Iv i18)) (ev rfl)) (by dsimp only [List.set]; try rfl) ?_
  refine wpList_nil (hK15 _ _ ?_)
  refine wp_seq_k fun K21 hK21 => ?_
  refine wp_seq_k fun K22 hK22 => ?_
  refine wp_region_lit ?_
  refine q_is rfl rfl (does_move (u := (Iv i18)) (ev rfl)) (by dsimp only [List.set]; try rfl) ?_
  refine q_is rfl rfl (does_icmp (p := i18) (q := 0) (.inr (.inr (.inl rfl))) (ev rfl) (ev rfl)) (by dsimp only [List.set]; try rfl) ?_
  refine wpList_nil (hK22 _ _ ?_)
  refine wp_cond_split (t := icmp .lss i18 0) (ev rfl) (fun c23 => ?_) (fun c23 => ?_)
  · have c23' := c23
    (try simp only [icmp, Bool.and_eq_true, Bool.or_eq_true, Bool.and_eq_false_iff, Bool.or_eq_false_iff, Bool.not_eq_true', Bool.not_eq_false', decide_eq_true_eq, decide_eq_false_iff_not, beq_iff_eq, bne_iff_ne, beq_eq_false_iff_ne, bne_eq_false_iff_eq] at c23')
    refine wp_seq_k fun K24 hK24 => ?_
    refine wp_region_lit ?_
    refine q_is rfl rfl (does_assign (u := (Bo true)) (ev rfl)) (by dsimp only [List.set]; try rfl) ?_
    refine wpList_nil (hK24 _ _ ?_)
    refine wp_ret ?_
    dsimp only [Exit.then, Exit.inBlock]
    refine ret_val (v := (Bo true)) (res_T rfl (slot rfl)) X20 ?_
    exact rfl
  have c23' := c23
  (try simp only [icmp, Bool.and_eq_true, Bool.or_eq_true, Bool.and_eq_false_iff, Bool.or_eq_false_iff, Bool.not_eq_true', Bool.not_eq_false', decide_eq_true_eq, decide_eq_false_iff_not, beq_iff_eq, bne_iff_ne, beq_eq_false_iff_ne, bne_eq_false_iff_eq] at c23')
  refine wp_skip (hK21 _ _ ?_)
  refine wp_seq_k fun K25 hK25 => ?_
  refine wp_region_lit ?_
  refine q_is rfl rfl (does_loadAgg (cs := [(Iv A_p.points), (Iv A_p.values), (.slice p3 A_p.steps.length q4)]) (ev rfl) Try.isAgg33 Try.sizeOf33 (Blk.cells (hB9.ext E16)) rfl) (by dsimp only [List.set]; try rfl) ?_
  refine seqd rfl rfl (does_call (args := #[(.agg #[(Iv A_p.points), (Iv A_p.values), (.slice p3 A_p.steps.length q4)])]) cal17 (evs rfl) (c_laws_toProgram [(Iv A_p.points), (Iv A_p.values), (.slice p3 A_p.steps.length q4)] A_p _ ⟨(.slice p3 A_p.steps.length q4), rfl, (Sl.ext hs5 RStepT.mono X20)⟩ (by omega))) ?_; rintro _ w27 ⟨E26, ⟨cs29, rfl, hh28⟩⟩
  have X30 := Ext.gr X20 E26
  have n31 : b7 < w17.heap.size := Blk.lt (hB9.ext E16)
  obtain ⟨y32, rfl, h33⟩ := hh28.get
  have h33l := Sl.len h33; obtain ⟨p34, q35, rfl⟩ := Sl.shape h33
  have hh36 : Hang w17.heap.size w27 (fun u => Sl RStepT 8 u (.slice p34 A_p.steps.length q35) A_p.steps) := fun u hu => by obtain ⟨_, hq, _⟩ := hh28 u hu; cases hq; assumption
  show wpList _ _ _ _ (fr [(.agg #[(Iv A_p.points), (Iv A_p.values), (.slice p3 A_p.steps.length q4)]), (Iv kind), (Pt b7 0), Ud, (Bo false), (Iv i18), Ud, Ud, Ud, Ud, Ud, (.agg #[(Iv A_p.points), (Iv A_p.values), (.slice p3 A_p.steps.length q4)]), (Iv 1048576), (Iv i18), (Iv i18), (Bo (icmp .lss i18 0)), Ud, (.agg #[(Iv A_p.points), (Iv A_p.values), (.slice p3 A_p.steps.length q4)]), (.agg #[(Iv A_p.points), (Iv A_p.values), (.slice p34 A_p.steps.length q35)]), Ud, Ud, Ud, Ud, Ud, Ud, Ud, Ud, Ud, Ud, Ud, Ud, Ud, Ud, Ud, Ud, Ud, Ud, Ud, Ud, Ud, Ud, Ud, Ud, Ud]) _
  refine q_is rfl rfl (does_move (u := (Iv kind)) (ev rfl)) (by dsimp only [List.set]; try rfl) ?_
  refine seqd rfl rfl (does_call (args := #[(.agg #[(Iv A_p.points), (Iv A_p.values), (.slice p34 A_p.steps.length q35)]), (Iv kind)]) cal27 (evs rfl) (c_spec_StepsOfKind [(Iv A_p.points), (Iv A_p.values), (.slice p34 A_p.steps.length q35)] A_p kind _ ⟨(.slice p34 A_p.steps.length q35), rfl, hh36.get⟩)) ?_; rintro _ w38 ⟨E37, rfl⟩
  have X39 := Ext.gr X30 E37
  show wpList _ _ _ _ (fr [(.agg #[(Iv A_p.points), (Iv A_p.values), (.slice p3 A_p.steps.length q4)]), (Iv kind), (Pt b7 0), Ud, (Bo false), (Iv i18), Ud, Ud, Ud, Ud, Ud, (.agg #[(Iv A_p.points), (Iv A_p.values), (.slice p3 A_p.steps.length q4)]), (Iv 1048576), (Iv i18), (Iv i18), (Bo (icmp .lss i18 0)), Ud, (.agg #[(Iv A_p.points), (Iv A_p.values), (.slice p3 A_p.steps.length q4)]), (.agg #[(Iv A_p.points), (Iv A_p.values), (.slice p34 A_p.steps.length q35)]), (Iv kind), (.tuple #[(Iv (gvI (progOk A_p) (kindsTo A_p.steps kind A_p.steps.length))), (Bo (progOk A_p))]), Ud, Ud, Ud, Ud, Ud, Ud, Ud, Ud, Ud, Ud, Ud, Ud, Ud, Ud, Ud, Ud, Ud, Ud, Ud, Ud, Ud, Ud, Ud]) _
  refine q_is rfl rfl (does_move (u := (.tuple #[(Iv (gvI (progOk A_p) (kindsTo A_p.steps kind A_p.steps.length))), (Bo (progOk A_p))])) (ev rfl)) (by dsimp only [List.set]; try rfl) ?_
  refine q_is rfl rfl (does_extract (vs := #[(Iv (gvI (progOk A_p) (kindsTo A_p.steps kind A_p.steps.length))), (Bo (progOk A_p))]) (u := (Iv (gvI (progOk A_p) (kindsTo A_p.steps kind A_p.steps.length)))) (ev rfl) rfl) (by dsimp only [List.set]; try rfl) ?_
  refine q_is rfl rfl (does_extract (vs := #[(Iv (gvI (progOk A_p) (kindsTo A_p.steps kind A_p.steps.length))), (Bo (progOk A_p))]) (u := (Bo (progOk A_p))) (ev rfl) rfl) (by dsimp only [List.set]; try rfl) ?_
  refine q_is rfl rfl (does_assign (u := (Iv (gvI (progOk A_p) (kindsTo A_p.steps kind A_p.steps.length)))) (ev rfl)) (by dsimp only [List.set]; try rfl) ?_
  refine q_is rfl rfl (does_assign (u := (Bo (progOk A_p))) (ev rfl)) (by dsimp only [List.set]; try rfl) ?_
  refine wpList_nil (hK25 _ _ ?_)
  refine wp_seq_k fun K40 hK40 => ?_
  refine wp_region_lit ?_
  refine q_is rfl rfl (does_loadAgg (cs := [(Iv A_p.points), (Iv A_p.values), (.slice p3 A_p.steps.length q4)]) (ev rfl) Try.isAgg33 Try.sizeOf33 (Blk.cells (((hB9.ext E16).ext E26).ext E37)) rfl) (by dsimp only [List.set]; try rfl) ?_
  refine seqd rfl rfl (does_call (args := #[(.agg #[(Iv A_p.points), (Iv A_p.values), (.slice p3 A_p.steps.length q4)])]) cal17 (evs rfl) (c_laws_toProgram [(Iv A_p.points), (Iv A_p.values), (.slice p3 A_p.steps.length q4)] A_p _ ⟨(.slice p3 A_p.steps.length q4), rfl, (Sl.ext hs5 RStepT.mono X39)⟩ (by omega))) ?_; rintro _ w42 ⟨E41, ⟨cs44, rfl, hh43⟩⟩
  have X45 := Ext.gr X39 E41
  have n46 : b7 < w38.heap.size := Blk.lt (((hB9.ext E16).ext E26).ext E37)
  obtain ⟨y47, rfl, h48⟩ := hh43.get
  have h48l := Sl.len h48; obtain ⟨p49, q50, rfl⟩ := Sl.shape h48
  have hh51 : Hang w38.heap.size w42 (fun u => Sl RStepT 8 u (.slice p49 A_p.steps.length q50) A_p.steps) := fun u hu => by obtain ⟨_, hq, _⟩ := hh43 u hu; cases hq; assumption
  show wpList _ _ _ _ (fr [(.agg #[(Iv A_p.points), (Iv A_p.values), (.slice p3 A_p.steps.length q4)]), (Iv kind), (Pt b7 0), Ud, (Bo false), (Iv i18), (Iv (gvI (progOk A_p) (kindsTo A_p.steps kind A_p.steps.length))), (Bo (progOk A_p)), Ud, Ud, Ud, (.agg #[(Iv A_p.points), (Iv A_p.values), (.slice p3 A_p.steps.length q4)]), (Iv 1048576), (Iv i18), (Iv i18), (Bo (icmp .lss i18 0)), (.tuple #[(Iv (gvI (progOk A_p) (kindsTo A_p.steps kind A_p.steps.length))), (Bo (progOk A_p))]), (.agg #[(Iv A_p.points), (Iv A_p.values), (.slice p3 A_p.steps.length q4)]), (.agg #[(Iv A_p.points), (Iv A_p.values), (.slice p34 A_p.steps.length q35)]), (Iv kind), (.tuple #[(Iv (gvI (progOk A_p) (kindsTo A_p.steps kind A_p.steps.length))), (Bo (progOk A_p))]), (Iv (gvI (progOk A_p) (kindsTo A_p.steps kind A_p.steps.length))), (Bo (progOk A_p)), (.agg #[(Iv A_p.points), (Iv A_p.values), (.slice p3 A_p.steps.length q4)]), (.agg #[(Iv A_p.points), (Iv A_p.values), (.slice p49 A_p.steps.length q50)]), Ud, Ud, Ud, Ud, Ud, Ud, Ud, Ud, Ud, Ud, Ud, Ud, Ud, Ud, Ud, Ud, Ud, Ud, Ud]) _
  refine seqd rfl rfl (does_alloc z38) ?_; rintro _ w56 ⟨b52, rfl, hb53, hB54, E55⟩
  have n57 : b7 < b52 := Nat.lt_of_lt_of_le (Blk.lt ((((hB9.ext E16).ext E26).ext E37).ext E41)) hb53
  have g58 : w.heap.size ≤ b52 := Nat.le_trans (Below.size X45) hb53
  change Blk _ _ [(Iv 0), (Iv 0), (.slice none 0 0)] at hB54
  have X59 := Ext.gr X45 E55
  show wpList _ _ _ _ (fr [(.agg #[(Iv A_p.points), (Iv A_p.values), (.slice p3 A_p.steps.length q4)]), (Iv kind), (Pt b7 0), Ud, (Bo false), (Iv i18), (Iv (gvI (progOk A_p) (kindsTo A_p.steps kind A_p.steps.length))), (Bo (progOk A_p)), (Pt b52 0), Ud, Ud, (.agg #[(Iv A_p.points), (Iv A_p.values), (.slice p3 A_p.steps.length q4)]), (Iv 1048576), (Iv i18), (Iv i18), (Bo (icmp .lss i18 0)), (.tuple #[(Iv (gvI (progOk A_p) (kindsTo A_p.steps kind A_p.steps.length))), (Bo (progOk A_p))]), (.agg #[(Iv A_p.points), (Iv A_p.values), (.slice p3 A_p.steps.length q4)]), (.agg #[(Iv A_p.points), (Iv A_p.values), (.slice p34 A_p.steps.length q35)]), (Iv kind), (.tuple #[(Iv (gvI (progOk A_p) (kindsTo A_p.steps kind A_p.steps.length))), (Bo (progOk A_p))]), (Iv (gvI (progOk A_p) (kindsTo A_p.steps kind A_p.steps.length))), (Bo (progOk A_p)), (.agg #[(Iv A_p.points), (Iv A_p.values), (.slice p3 A_p.steps.length q4)]), (.agg #[(Iv A_p.points), (Iv A_p.values), (.slice p49 A_p.steps.length q50)]), Ud, Ud, Ud, Ud, Ud, Ud, Ud, Ud, Ud, Ud, Ud, Ud, Ud, Ud, Ud, Ud, Ud, Ud, Ud]) _
  refine seqn rfl rfl (does_store (n := 3) (cs := [(Iv 0), (Iv 0), (.slice none 0 0)]) (u := (.agg #[(Iv A_p.points), (Iv A_p.values), (.slice p49 A_p.steps.length q50)])) (ev rfl) (ev rfl) Try.sizeOf38 rfl hB54 (Nat.le_of_ble_eq_true rfl) rfl) ?_; rintro _ w62 ⟨rfl, W60, hB61⟩
  change Blk _ _ [(Iv A_p.points), (Iv A_p.values), (.slice p49 A_p.steps.length q50)] at hB61
  have X63 := Below.wr X59 W60 g58
  refine wpList_nil (hK40 _ _ ?_)
  refine wp_seq_k fun K64 hK64 => ?_
  refine wp_region_lit ?_
  refine q_is rfl rfl (does_loadAgg (cs := [(Iv A_p.points), (Iv A_p.values), (.slice p49 A_p.steps.length q50)]) (ev rfl) Try.isAgg38 Try.sizeOf38 (Blk.cells hB61) rfl) (by dsimp only [List.set]; try rfl) ?_
  refine q_is rfl rfl (does_move (u := (Iv kind)) (ev rfl)) (by dsimp only [List.set]; try rfl) ?_
  refine seqd rfl rfl (does_call (args := #[(.agg #[(Iv A_p.points), (Iv A_p.values), (.slice p49 A_p.steps.length q50)]), (Iv kind)]) cal28 (evs rfl) (c_impl_StepsOfKind [(Iv A_p.points), (Iv A_p.values), (.slice p49 A_p.steps.length q50)] A_p kind _ ⟨(.slice p49 A_p.steps.length q50), rfl, (hh51 _ (((Same.refl _ _).ext E55).wr W60 (.inr (Nat.le_trans (Below.size (Ext.refl _)) hb53))))⟩)) ?_; rintro _ w66 ⟨E65, rfl⟩
  have X67 := Ext.gr X63 E65
  show wpList _ _ _ _ (fr [(.agg #[(Iv A_p.points), (Iv A_p.values), (.slice p3 A_p.steps.length q4)]), (Iv kind), (Pt b7 0), Ud, (Bo false), (Iv i18), (Iv (gvI (progOk A_p) (kindsTo A_p.steps kind A_p.steps.length))), (Bo (progOk A_p)), (Pt b52 0), Ud, Ud, (.agg #[(Iv A_p.points), (Iv A_p.values), (.slice p3 A_p.steps.length q4)]), (Iv 1048576), (Iv i18), (Iv i18), (Bo (icmp .lss i18 0)), (.tuple #[(Iv (gvI (progOk A_p) (kindsTo A_p.steps kind A_p.steps.length))), (Bo (progOk A_p))]), (.agg #[(Iv A_p.points), (Iv A_p.values), (.slice p3 A_p.steps.length q4)]), (.agg #[(Iv A_p.points), (Iv A_p.values), (.slice p34 A_p.steps.length q35)]), (Iv kind), (.tuple #[(Iv (gvI (progOk A_p) (kindsTo A_p.steps kind A_p.steps.length))), (Bo (progOk A_p))]), (Iv (gvI (progOk A_p) (kindsTo A_p.steps kind A_p.steps.length))), (Bo (progOk A_p)), (.agg #[(Iv A_p.points), (Iv A_p.values), (.slice p3 A_p.steps.length q4)]), (.agg #[(Iv A_p.points), (Iv A_p.values), (.slice p49 A_p.steps.length q50)]), Ud, (.agg #[(Iv A_p.points), (Iv A_p.values), (.slice p49 A_p.steps.length q50)]), (Iv kind), (.tuple #[(Iv (gvI (progOk A_p) (kindsTo A_p.steps kind A_p.steps.length))), (Bo (progOk A_p))]), Ud, Ud, Ud, Ud, Ud, Ud, Ud, Ud, Ud, Ud, Ud, Ud, Ud, Ud, Ud]) _
  refine q_is rfl rfl (does_move (u := (.tuple #[(Iv (gvI (progOk A_p) (kindsTo A_p.steps kind A_p.steps.length))), (Bo (progOk A_p))])) (ev rfl)) (by dsimp only [List.set]; try rfl) ?_
  refine q_is rfl rfl (does_extract (vs := #[(Iv (gvI (progOk A_p) (kindsTo A_p.steps kind A_p.steps.length))), (Bo (progOk A_p))]) (u := (Iv (gvI (progOk A_p) (kindsTo A_p.steps kind A_p.steps.length)))) (ev rfl) rfl) (by dsimp only [List.set]; try rfl) ?_
  refine q_is rfl rfl (does_extract (vs := #[(Iv (gvI (progOk A_p) (kindsTo A_p.steps kind A_p.steps.length))), (Bo (progOk A_p))]) (u := (Bo (progOk A_p))) (ev rfl) rfl) (by dsimp only [List.set]; try rfl) ?_
  refine q_is rfl rfl (does_assign (u := (Iv (gvI (progOk A_p) (kindsTo A_p.steps kind A_p.steps.length)))) (ev rfl)) (by dsimp only [List.set]; try rfl) ?_
  refine q_is rfl rfl (does_assign (u := (Bo (progOk A_p))) (ev rfl)) (by dsimp only [List.set]; try rfl) ?_
  refine wpList_nil (hK64 _ _ ?_)
  refine wp_seq_k fun K68 hK68 => ?_
  refine wp_seq_k fun K69 hK69 => ?_
  obtain ⟨β1, hβ1⟩ : ∃ b : Bool, b = (icmp .neq (gvI (progOk A_p) (kindsTo A_p.steps kind A_p.steps.length)) (gvI (progOk A_p) (kindsTo A_p.steps kind A_p.steps.length))) := ⟨_, rfl⟩
  obtain ⟨β2, hβ2⟩ : ∃ b : Bool, b = ((progOk A_p) != (progOk A_p)) := ⟨_, rfl⟩
  refine region_text (
    [Fact.pure [] (fun v => v = (Iv (gvI (progOk A_p) (kindsTo A_p.steps kind A_p.steps.length)))),
    Fact.pure [] (fun v => v = (Iv (gvI (progOk A_p) (kindsTo A_p.steps kind A_p.steps.length)))),
    Fact.pure [31, 32] (fun v => v = (Bo β1)),
    Fact.pure [33] (fun v => v = (Bo β1)),
    Fact.pure [34] (fun v => β1 = false → v = (Bo (progOk A_p))),
    Fact.pure [34] (fun v => β1 = false → v = (Bo (progOk A_p))),
    Fact.pure [35, 36, 34] (fun v => β1 = false → v = (Bo β2)),
    Fact.pure [34, 37] (fun v => v = (Bo (β1 || β2)))]) (by simp [Fact.pure, Fact.mem]) ?_
  refine RW_d _ rfl (fun v => by dsimp only [List.set]; try rfl) (fun u hu hF => ?_) (fun v70 => ?_)
  · clear hF
    refine doesG_un rfl ?_
    refine (does_move (u := (Iv (gvI (progOk A_p) (kindsTo A_p.steps kind A_p.steps.length)))) (ev rfl)).mono ?_; rintro _ _ ⟨rfl, rfl⟩
    exact ⟨rfl, Ext.refl _⟩
  refine RW_d _ rfl (fun v => by dsimp only [List.set]; try rfl) (fun u hu hF => ?_) (fun v71 => ?_)
  · clear hF
    refine doesG_un rfl ?_
    refine (does_move (u := (Iv (gvI (progOk A_p) (kindsTo A_p.steps kind A_p.steps.length)))) (ev rfl)).mono ?_; rintro _ _ ⟨rfl, rfl⟩
    exact ⟨rfl, Ext.refl _⟩
  refine RW_d _ rfl (fun v => by dsimp only [List.set]; try rfl) (fun u hu hF => ?_) (fun v72 => ?_)
  · have h31_ : v70 = (Iv (gvI (progOk A_p) (kindsTo A_p.steps kind A_p.steps.length))) := hF.1
    have h32_ : v71 = (Iv (gvI (progOk A_p) (kindsTo A_p.steps kind A_p.steps.length))) := hF.2.1
    clear hF
    refine doesG_un rfl ?_
    obtain rfl := h31_
    obtain rfl := h32_
    refine (does_icmp (p := gvI (progOk A_p) (kindsTo A_p.steps kind A_p.steps.length)) (q := gvI (progOk A_p) (kindsTo A_p.steps kind A_p.steps.length)) (.inr (.inl rfl)) (ev rfl) (ev rfl)).mono ?_; rintro _ _ ⟨rfl, rfl⟩
    exact ⟨(by first | rfl | (show _ = _; simp only [hβ1])), Ext.refl _⟩
  refine RW_d _ rfl (fun v => by dsimp only [List.set]; try rfl) (fun u hu hF => ?_) (fun v73 => ?_)
  · have h33_ : v72 = (Bo β1) := hF.1
    clear hF
    refine doesG_un rfl ?_
    obtain rfl := h33_
    refine (does_move (u := (Bo β1)) (ev rfl)).mono ?_; rintro _ _ ⟨rfl, rfl⟩
    exact ⟨rfl, Ext.refl _⟩
  refine RW_d _ rfl (fun v => by dsimp only [List.set]; try rfl) (fun u hu hF => ?_) (fun v74 => ?_)
  · have h34_ : v73 = (Bo β1) := hF.1
    clear hF
    obtain rfl := h34_
    refine doesG_g (b := β1) rfl (yld rfl rfl) (fun hg1 => ?_) (fun hc => ⟨fun hg1 => absurd hg1 hc, Ext.refl _⟩)
    refine (does_move (u := (Bo (progOk A_p))) (ev rfl)).mono ?_; rintro _ _ ⟨rfl, rfl⟩
    exact ⟨fun _ => rfl, Ext.refl _⟩
  refine RW_d _ rfl (fun v => by dsimp only [List.set]; try rfl) (fun u hu hF => ?_) (fun v75 => ?_)
  · have h34_ : v73 = (Bo β1) := hF.1
    clear hF
    obtain rfl := h34_
    refine doesG_g (b := β1) rfl (yld rfl rfl) (fun hg1 => ?_) (fun hc => ⟨fun hg1 => absurd hg1 hc, Ext.refl _⟩)
    refine (does_move (u := (Bo (progOk A_p))) (ev rfl)).mono ?_; rintro _ _ ⟨rfl, rfl⟩
    exact ⟨fun _ => rfl, Ext.refl _⟩
  refine RW_d _ rfl (fun v => by dsimp only [List.set]; try rfl) (fun u hu hF => ?_) (fun v76 => ?_)
  · have h35_ : β1 = false → v74 = (Bo (progOk A_p)) := hF.1
    have h36_ : β1 = false → v75 = (Bo (progOk A_p)) := hF.2.1
    have h34_ : v73 = (Bo β1) := hF.2.2.1
    clear hF
    obtain rfl := h34_
    refine doesG_g (b := β1) rfl (yld rfl rfl) (fun hg1 => ?_) (fun hc => ⟨fun hg1 => absurd hg1 hc, Ext.refl _⟩)
    obtain rfl := h35_ hg1
    obtain rfl := h36_ hg1
    refine (does_bne (p := (progOk A_p)) (q := (progOk A_p)) Try.underlying4 (ev rfl) (ev rfl)).mono ?_; rintro _ _ ⟨rfl, rfl⟩
    exact ⟨fun _ => (by first | rfl | (show _ = _; simp only [hβ2])), Ext.refl _⟩
  refine RW_d _ rfl (fun v => by dsimp only [List.set]; try rfl) (fun u hu hF => ?_) (fun v77 => ?_)
  · have h34_ : v73 = (Bo β1) := hF.1
    have h37_ : β1 = false → v76 = (Bo β2) := hF.2.1
    clear hF
    refine doesG_un rfl ?_
    skip
    obtain rfl := h34_
    refine (does_pick (b := β1) (ev rfl) (ev rfl) (ev rfl)).mono ?_; rintro _ _ ⟨rfl, rfl⟩; refine ⟨?_, Ext.refl _⟩; skip
    cases hbb : β1 <;> simp [hbb] at h37_ ⊢
    all_goals (first | rfl | (subst h37_; rfl) | simp_all)
  refine RW_fin ?_; intro w78 E79 hP80
  obtain ⟨⟨⟨⟨⟨⟨⟨⟨-, -⟩, -⟩, -⟩, -⟩, -⟩, -⟩, -⟩, q81⟩ := hP80
  have X82 := Ext.gr X67 E79
  have q81 : v77 = (Bo (β1 || β2)) := q81
  obtain rfl := q81
  show wpList _ _ _ _ (fr [(.agg #[(Iv A_p.points), (Iv A_p.values), (.slice p3 A_p.steps.length q4)]), (Iv kind), (Pt b7 0), Ud, (Bo false), (Iv i18), (Iv (gvI (progOk A_p) (kindsTo A_p.steps kind A_p.steps.length))), (Bo (progOk A_p)), (Pt b52 0), (Iv (gvI (progOk A_p) (kindsTo A_p.steps kind A_p.steps.length))), (Bo (progOk A_p)), (.agg #[(Iv A_p.points), (Iv A_p.values), (.slice p3 A_p.steps.length q4)]), (Iv 1048576), (Iv i18), (Iv i18), (Bo (icmp .lss i18 0)), (.tuple #[(Iv (gvI (progOk A_p) (kindsTo A_p.steps kind A_p.steps.length))), (Bo (progOk A_p))]), (.agg #[(Iv A_p.points), (Iv A_p.values), (.slice p3 A_p.steps.length q4)]), (.agg #[(Iv A_p.points), (Iv A_p.values), (.slice p34 A_p.steps.length q35)]), (Iv kind), (.tuple #[(Iv (gvI (progOk A_p) (kindsTo A_p.steps kind A_p.steps.length))), (Bo (progOk A_p))]), (Iv (gvI (progOk A_p) (kindsTo A_p.steps kind A_p.steps.length))), (Bo (progOk A_p)), (.agg #[(Iv A_p.points), (Iv A_p.values), (.slice p3 A_p.steps.length q4)]), (.agg #[(Iv A_p.points), (Iv A_p.values), (.slice p49 A_p.steps.length q50)]), (.tuple #[(Iv (gvI (progOk A_p) (kindsTo A_p.steps kind A_p.steps.length))), (Bo (progOk A_p))]), (.agg #[(Iv A_p.points), (Iv A_p.values), (.slice p49 A_p.steps.length q50)]), (Iv kind), (.tuple #[(Iv (gvI (progOk A_p) (kindsTo A_p.steps kind A_p.steps.length))), (Bo (progOk A_p))]), (Iv (gvI (progOk A_p) (kindsTo A_p.steps kind A_p.steps.length))), (Bo (progOk A_p)), v70, v71, v72, v73, v74, v75, v76, (Bo (β1 || β2)), Ud, Ud, Ud, Ud, Ud]) _
  refine wpList_nil (hK69 _ _ ?_)
  refine wp_cond_split (t := β1 || β2) (ev rfl) (fun c83 => ?_) (fun c83 => ?_)
  · have c83' := c83
    (try simp only [hβ1, hβ2] at c83')
    (try simp only [icmp, Bool.and_eq_true, Bool.or_eq_true, Bool.and_eq_false_iff, Bool.or_eq_false_iff, Bool.not_eq_true', Bool.not_eq_false', decide_eq_true_eq, decide_eq_false_iff_not, beq_iff_eq, bne_iff_ne, beq_eq_false_iff_ne, bne_eq_false_iff_eq] at c83')
    refine wp_seq_k fun K84 hK84 => ?_
    refine wp_region_lit ?_
    refine q_is rfl rfl (does_assign (u := (Bo false)) (ev rfl)) (by dsimp only [List.set]; try rfl) ?_
    refine wpList_nil (hK84 _ _ ?_)
    refine wp_ret ?_
    dsimp only [Exit.then, Exit.inBlock]
    refine ret_val (v := (Bo false)) (res_T rfl (slot rfl)) X82 ?_
    try simp only [hβ1, hβ2] at c23 c83
    have x85 : true = false := by first | with_reducible rfl | (simp only [samePr_self, bne_self_eq_false, icmp, hβ1, hβ2, c23, c83]; done) | (simp [samePr_self, bne_self_eq_false, icmp, hβ1, hβ2, c23, c83]; done) | (revert c23 c83; simp +contextual [samePr_self, bne_self_eq_false, icmp, hβ1, hβ2]; done) | (rcases c23' with hh | hh <;> simp only [hh, samePr_self, bne_self_eq_false, icmp, hβ1, hβ2, c23, c83]; done) | (rcases c83' with hh | hh <;> simp only [hh, samePr_self, bne_self_eq_false, icmp, hβ1, hβ2, c23, c83]; done) | (rcases c83' with hh | hh <;> simp_all [samePr_self, bne_self_eq_false, icmp]; done) | (rcases c83' with hh | hh | hh <;> simp_all [samePr_self, bne_self_eq_false, icmp]; done) | (rcases c83' with hh | hh | hh | hh <;> simp_all [samePr_self, bne_self_eq_false, icmp]; done) | (simp_all [samePr_self, bne_self_eq_false, icmp]; done) | rfl
    exact (by first | rfl | rw [x85])
  have c83' := c83
  (try simp only [hβ1, hβ2] at c83')
  (try simp only [icmp, Bool.and_eq_true, Bool.or_eq_true, Bool.and_eq_false_iff, Bool.or_eq_false_iff, Bool.not_eq_true', Bool.not_eq_false', decide_eq_true_eq, decide_eq_false_iff_not, beq_iff_eq, bne_iff_ne, beq_eq_false_iff_ne, bne_eq_false_iff_eq] at c83')
  refine wp_skip (hK68 _ _ ?_)
  refine wp_seq_k fun K86 hK86 => ?_
  refine wp_seq_k fun K87 hK87 => ?_
  refine region_draw (
    [Fact.pure [] (fun v => v = (.agg #[(Iv A_p.points), (Iv A_p.values), (.slice p49 A_p.steps.length q50)])),
    Fact.pure [] (fun v => v = (.agg #[(Iv A_p.points), (Iv A_p.values), (.slice p3 A_p.steps.length q4)])),
    Fact.mem [40] (fun v w' => ∃ cs_1 : List Value, v = (.agg cs_1.toArray) ∧ Hang w78.heap.size w' (fun u => RProgT u A_p cs_1)) (by rintro v w1 w2 hx ⟨z1, rfl, k0⟩; exact ⟨z1, rfl, (k0.ext hx)⟩),
    Fact.pure [39, 41] (fun v => v = (Bo (samePr A_p A_p))),
    Fact.pure [42] (fun v => v = (Bo (!(samePr A_p A_p))))]) mixed (by kernel_rfl) (by intro _ _ d _ _ h; cases d <;> exact h) ?_
  obtain ⟨w88, hw90⟩ : ∃ w', w' = World.drew w78 := ⟨_, rfl⟩; rw [← hw90]; have E89 : Ext w78 w88 := by rw [hw90]; exact Ext.draw _
  clear hw90
  have X91 := Ext.gr X82 E89
  refine RW_d _ rfl (fun v => by dsimp only [List.set]; try rfl) (fun u hu hF => ?_) (fun v92 => ?_)
  · clear hF
    refine doesG_un rfl ?_
    refine (does_loadAgg (cs := [(Iv A_p.points), (Iv A_p.values), (.slice p49 A_p.steps.length q50)]) (ev rfl) Try.isAgg38 Try.sizeOf38 (Blk.cells ((((hB61.ext E65).ext E79).ext E89).ext hu)) rfl).mono ?_; rintro _ _ ⟨rfl, rfl⟩
    exact ⟨rfl, Ext.refl _⟩
  refine RW_d _ rfl (fun v => by dsimp only [List.set]; try rfl) (fun u hu hF => ?_) (fun v93 => ?_)
  · clear hF
    refine doesG_un rfl ?_
    refine (does_loadAgg (cs := [(Iv A_p.points), (Iv A_p.values), (.slice p3 A_p.steps.length q4)]) (ev rfl) Try.isAgg33 Try.sizeOf33 (Blk.cells ((((((((((hB9.ext E16).ext E26).ext E37).ext E41).ext E55).wr W60 (Nat.ne_of_lt n57)).ext E65).ext E79).ext E89).ext hu)) rfl).mono ?_; rintro _ _ ⟨rfl, rfl⟩
    exact ⟨rfl, Ext.refl _⟩
  refine RW_d _ rfl (fun v => by dsimp only [List.set]; try rfl) (fun u hu hF => ?_) (fun v94 => ?_)
  · have h40_ : v93 = (.agg #[(Iv A_p.points), (Iv A_p.values), (.slice p3 A_p.steps.length q4)]) := hF.1
    clear hF
    refine doesG_un rfl ?_
    obtain rfl := h40_
    refine (does_call (args := #[(.agg #[(Iv A_p.points), (Iv A_p.values), (.slice p3 A_p.steps.length q4)])]) cal17 (evs rfl) (c_laws_toProgram [(Iv A_p.points), (Iv A_p.values), (.slice p3 A_p.steps.length q4)] A_p _ ⟨(.slice p3 A_p.steps.length q4), rfl, (Sl.ext (Sl.ext hs5 RStepT.mono (Ext.gr X82 E89)) RStepT.mono hu)⟩ (by omega))).mono ?_; rintro v u' ⟨hx, ⟨csn1, hv, k0⟩⟩
    exact ⟨⟨csn1, hv, (Hang.le k0 (Nat.le_trans (Below.size E89) (Below.size hu)))⟩, hx⟩
  refine RW_d _ rfl (fun v => by dsimp only [List.set]; try rfl) (fun u hu hF => ?_) (fun v95 => ?_)
  · have h39_ : v92 = (.agg #[(Iv A_p.points), (Iv A_p.values), (.slice p49 A_p.steps.length q50)]) := hF.1
    have h41_ : ∃ cs_1 : List Value, v94 = (.agg cs_1.toArray) ∧ Hang w78.heap.size u (fun u => RProgT u A_p cs_1) := hF.2.1
    clear hF
    refine doesG_un rfl ?_
    obtain rfl := h39_
    obtain ⟨cs41_2, rfl, hh41_1⟩ := h41_
    obtain ⟨y41_3, rfl, h41_4⟩ := hh41_1.get
    have hh41_4 := h41_4; obtain ⟨p41_5, q41_6, rfl⟩ := Sl.shape h41_4
    refine (does_call (args := #[(.agg #[(Iv A_p.points), (Iv A_p.values), (.slice p49 A_p.steps.length q50)]), (.agg #[(Iv A_p.points), (Iv A_p.values), (.slice p41_5 A_p.steps.length q41_6)])]) cal19 (evs rfl) (c_laws_eqProgram [(Iv A_p.points), (Iv A_p.values), (.slice p49 A_p.steps.length q50)] A_p [(Iv A_p.points), (Iv A_p.values), (.slice p41_5 A_p.steps.length q41_6)] A_p _ ⟨(.slice p49 A_p.steps.length q50), rfl, (Sl.ext (hh51 _ ((((((Same.refl _ _).ext E55).wr W60 (.inr (Nat.le_trans (Below.size (Ext.refl _)) hb53))).ext E65).ext E79).ext E89)) RStepT.mono hu)⟩ ⟨(.slice p41_5 A_p.steps.length q41_6), rfl, hh41_4⟩)).mono ?_; rintro v u' ⟨hx, hv⟩
    exact ⟨hv, hx⟩
  refine RW_d _ rfl (fun v => by dsimp only [List.set]; try rfl) (fun u hu hF => ?_) (fun v96 => ?_)
  · have h42_ : v95 = (Bo (samePr A_p A_p)) := hF.1
    clear hF
    refine doesG_un rfl ?_
    obtain rfl := h42_
    refine (does_not (ev rfl)).mono ?_; rintro _ _ ⟨rfl, rfl⟩
    exact ⟨rfl, Ext.refl _⟩
  refine RW_fin ?_; intro w97 E98 hP99
  obtain ⟨⟨⟨⟨⟨-, -⟩, -⟩, -⟩, -⟩, q100⟩ := hP99
  have X101 := Ext.gr X91 E98
  have q100 : v96 = (Bo (!(samePr A_p A_p))) := q100
  obtain rfl := q100
  show wpList _ _ _ _ (fr [(.agg #[(Iv A_p.points), (Iv A_p.values), (.slice p3 A_p.steps.length q4)]), (Iv kind), (Pt b7 0), Ud, (Bo false), (Iv i18), (Iv (gvI (progOk A_p) (kindsTo A_p.steps kind A_p.steps.length))), (Bo (progOk A_p)), (Pt b52 0), (Iv (gvI (progOk A_p) (kindsTo A_p.steps kind A_p.steps.length))), (Bo (progOk A_p)), (.agg #[(Iv A_p.points), (Iv A_p.values), (.slice p3 A_p.steps.length q4)]), (Iv 1048576), (Iv i18), (Iv i18), (Bo (icmp .lss i18 0)), (.tuple #[(Iv (gvI (progOk A_p) (kindsTo A_p.steps kind A_p.steps.length))), (Bo (progOk A_p))]), (.agg #[(Iv A_p.points), (Iv A_p.values), (.slice p3 A_p.steps.length q4)]), (.agg #[(Iv A_p.points), (Iv A_p.values), (.slice p34 A_p.steps.length q35)]), (Iv kind), (.tuple #[(Iv (gvI (progOk A_p) (kindsTo A_p.steps kind A_p.steps.length))), (Bo (progOk A_p))]), (Iv (gvI (progOk A_p) (kindsTo A_p.steps kind A_p.steps.length))), (Bo (progOk A_p)), (.agg #[(Iv A_p.points), (Iv A_p.values), (.slice p3 A_p.steps.length q4)]), (.agg #[(Iv A_p.points), (Iv A_p.values), (.slice p49 A_p.steps.length q50)]), (.tuple #[(Iv (gvI (progOk A_p) (kindsTo A_p.steps kind A_p.steps.length))), (Bo (progOk A_p))]), (.agg #[(Iv A_p.points), (Iv A_p.values), (.slice p49 A_p.steps.length q50)]), (Iv kind), (.tuple #[(Iv (gvI (progOk A_p) (kindsTo A_p.steps kind A_p.steps.length))), (Bo (progOk A_p))]), (Iv (gvI (progOk A_p) (kindsTo A_p.steps kind A_p.steps.length))), (Bo (progOk A_p)), v70, v71, v72, v73, v74, v75, v76, (Bo (β1 || β2)), v92, v93, v94, v95, (Bo (!(samePr A_p A_p)))]) _
  refine wpList_nil (hK87 _ _ ?_)
  refine wp_cond_split (t := !(samePr A_p A_p)) (ev rfl) (fun c102 => ?_) (fun c102 => ?_)
  · rw [Bool.not_eq_true'] at c102
    have c102' := c102
    (try simp only [hβ1, hβ2] at c102')
    (try simp only [icmp, Bool.and_eq_true, Bool.or_eq_true, Bool.and_eq_false_iff, Bool.or_eq_false_iff, Bool.not_eq_true', Bool.not_eq_false', decide_eq_true_eq, decide_eq_false_iff_not, beq_iff_eq, bne_iff_ne, beq_eq_false_iff_ne, bne_eq_false_iff_eq] at c102')
    refine wp_seq_k fun K103 hK103 => ?_
    refine wp_region_lit ?_
    refine q_is rfl rfl (does_assign (u := (Bo false)) (ev rfl)) (by dsimp only [List.set]; try rfl) ?_
    refine wpList_nil (hK103 _ _ ?_)
    refine wp_ret ?_
    dsimp only [Exit.then, Exit.inBlock]
    refine ret_val (v := (Bo false)) (res_T rfl (slot rfl)) X101 ?_
    try simp only [hβ1, hβ2] at c23 c83 c102
    have x104 : true = false := by first | with_reducible rfl | (simp only [samePr_self, bne_self_eq_false, icmp, hβ1, hβ2, c23, c83, c102]; done) | (simp [samePr_self, bne_self_eq_false, icmp, hβ1, hβ2, c23, c83, c102]; done) | (revert c23 c83 c102; simp +contextual [samePr_self, bne_self_eq_false, icmp, hβ1, hβ2]; done) | (rcases c23' with hh | hh <;> simp only [hh, samePr_self, bne_self_eq_false, icmp, hβ1, hβ2, c23, c83, c102]; done) | (rcases c83' with hh | hh <;> simp only [hh, samePr_self, bne_self_eq_false, icmp, hβ1, hβ2, c23, c83, c102]; done) | (rcases c102' with hh | hh <;> simp only [hh, samePr_self, bne_self_eq_false, icmp, hβ1, hβ2, c23, c83, c102]; done) | (rcases c102' with hh | hh <;> simp_all [samePr_self, bne_self_eq_false, icmp]; done) | (rcases c102' with hh | hh | hh <;> simp_all [samePr_self, bne_self_eq_false, icmp]; done) | (rcases c102' with hh | hh | hh | hh <;> simp_all [samePr_self, bne_self_eq_false, icmp]; done) | (simp_all [samePr_self, bne_self_eq_false, icmp]; done) | rfl
    exact (by first | rfl | rw [x104])
  rw [Bool.not_eq_false'] at c102
  have c102' := c102
  (try simp only [hβ1, hβ2] at c102')
  (try simp only [icmp, Bool.and_eq_true, Bool.or_eq_true, Bool.and_eq_false_iff, Bool.or_eq_false_iff, Bool.not_eq_true', Bool.not_eq_false', decide_eq_true_eq, decide_eq_false_iff_not, beq_iff_eq, bne_iff_ne, beq_eq_false_iff_ne, bne_eq_false_iff_eq] at c102')
  refine wp_skip (hK86 _ _ ?_)
  refine wp_seq_k fun K105 hK105 => ?_
  refine wp_region_lit ?_
  refine q_is rfl rfl (does_assign (u := (Bo true)) (ev rfl)) (by dsimp only [List.set]; try rfl) ?_
  refine wpList_nil (hK105 _ _ ?_)
  refine wp_ret ?_
  refine ret_val (v := (Bo true)) (res_T rfl (slot rfl)) X101 ?_
  try simp only [hβ1, hβ2] at c23 c83 c102
  exact rfl

end Go.Proofs.Ytgmpdiehpimpnaa
