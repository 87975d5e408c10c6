/- Regions in any order with stores, that make several new blocks: these lie apart. -/
import Derived.Test.YtjopopmipdakkaaRgn
import Derived.Test.YtjopopmipdakkaaRgw
namespace Go.Proofs.Ytjopopmipdakkaa
open Go Go.RowKit
theorem Apart.step' {ns : List Nat} {m : Nat} {U : List Nat} {vals : Nat → Value} {w w' : World} {i : Nat} {v : Value} (h : Apart ns m U vals w) (hnd : U.Nodup) (hiU : i ∈ U) (hs : w.heap.size ≤ w'.heap.size) (hn : ns.contains i = true → NewB w v w') : Apart ns m (U.erase i) (fun j => if j = i then v else vals j) w' := by
  have hout : ∀ j, j ∉ U.erase i → j ≠ i → j ∉ U := fun j hj hne hu => hj (hnd.mem_erase_iff.2 ⟨hne, hu⟩)
  refine ⟨fun j hj hjU hc => ?_, fun j k hj hk hjU hkU hcj hck hne => ?_⟩
  · by_cases hji : j = i
    · subst hji
      obtain ⟨b, hv, _, hlt⟩ := hn hc
      exact ⟨b, by simpa using hv, hlt⟩
    · obtain ⟨b, hv, hlt⟩ := h.1 j hj (hout j hjU hji) hc
      exact ⟨b, by simpa [hji] using hv, Nat.lt_of_lt_of_le hlt hs⟩
  · by_cases hji : j = i
    · have hki : k ≠ i := fun hh => hne (hji.trans hh.symm)
      obtain ⟨b, hv, hge, _⟩ := hn (hji ▸ hcj)
      obtain ⟨c, hv', hlt⟩ := h.1 k hk (hout k hkU hki) hck
      simp only [if_pos hji, if_neg hki, hv, hv']
      intro he; cases he; omega
    · by_cases hki : k = i
      · obtain ⟨b, hv, hge, _⟩ := hn (hki ▸ hck)
        obtain ⟨c, hv', hlt⟩ := h.1 j hj (hout j hjU hji) hcj
        simp only [if_neg hji, if_pos hki, hv, hv']
        intro he; cases he; omega
      · simp only [if_neg hji, if_neg hki]
        exact h.2 j k hj hk (hout j hjU hji) (hout k hkU hki) hcj hck hne
section
variable {P : Program} {ops : Array Oper} {Q : Exit → Act → World → Prop} {w0 : World} {a0 : Act} {bs : List Nat} {fs : List (FactW bs)} {ns : List Nat}
def RW3 (P : Program) (ops : Array Oper) (w0 : World) (ns : List Nat) (fin : List Oper → Act → (World → Prop) → List Value → Prop) : Nat → List Oper → List (FactW bs) → Act → (Nat → World → Prop) → (World → Prop) → List Value → Prop
  | n, o :: os, f :: fs, a, F, Φ, N =>
    (∀ w, KpL (sel bs f.bef) w0 w → facts F w f.deps → doesG P ops o a w (fun v w' => f.S v w' ∧ KpL (sel bs f.wr) w w' ∧ (ns.contains n = true → NewB w v w'))) ∧
    ∀ v, RW3 P ops w0 ns fin (n + 1) os fs (a.put o.dst v) (fun t => if t = n then f.S v else F t) (fun w => Φ w ∧ (f.live = true → f.S v w)) (if ns.contains n then v :: N else N)
  | _, os, _, a, _, Φ, N => fin os a Φ N
theorem RW3_d {fin : List Oper → Act → (World → Prop) → List Value → Prop} {n : Nat} {o : Oper} {os : List Oper} {f : FactW bs} {fs : List (FactW bs)} {l : List Value} {d : Nat} {F : Nat → World → Prop} {Φ : World → Prop} {N : List Value} (l' : Value → List Value)
    (hn : ns.contains n = false) (hd : o.dst = some d) (hl : ∀ v, l.set d v = l' v)
    (h1 : ∀ w, KpL (sel bs f.bef) w0 w → facts F w f.deps → doesG P ops o (fr l) w (fun v w' => f.S v w' ∧ KpL (sel bs f.wr) w w'))
    (h2 : ∀ v, RW3 P ops w0 ns fin (n + 1) os fs (fr (l' v)) (fun t => if t = n then f.S v else F t) (fun w => Φ w ∧ (f.live = true → f.S v w)) N) : RW3 P ops w0 ns fin n (o :: os) (f :: fs) (fr l) F Φ N := by
  refine ⟨fun w hx hf => (h1 w hx hf).mono fun v w' ⟨a, b⟩ => ⟨a, b, fun hc => by rw [hn] at hc; cases hc⟩, fun v => ?_⟩
  rw [hd, fr_put, hl, hn, if_neg Bool.false_ne_true]; exact h2 v
theorem RW3_b {fin : List Oper → Act → (World → Prop) → List Value → Prop} {n : Nat} {o : Oper} {os : List Oper} {f : FactW bs} {fs : List (FactW bs)} {l : List Value} {d : Nat} {F : Nat → World → Prop} {Φ : World → Prop} {N : List Value} (l' : Value → List Value)
    (hn : ns.contains n = true) (hd : o.dst = some d) (hl : ∀ v, l.set d v = l' v)
    (h1 : ∀ w, KpL (sel bs f.bef) w0 w → facts F w f.deps → doesG P ops o (fr l) w (fun v w' => f.S v w' ∧ KpL (sel bs f.wr) w w' ∧ NewB w v w'))
    (h2 : ∀ v, RW3 P ops w0 ns fin (n + 1) os fs (fr (l' v)) (fun t => if t = n then f.S v else F t) (fun w => Φ w ∧ (f.live = true → f.S v w)) (v :: N)) : RW3 P ops w0 ns fin n (o :: os) (f :: fs) (fr l) F Φ N := by
  refine ⟨fun w hx hf => (h1 w hx hf).mono fun v w' ⟨a, b, c⟩ => ⟨a, b, fun _ => c⟩, fun v => ?_⟩
  rw [hd, fr_put, hl, hn, if_pos rfl]; exact h2 v
theorem RW3_fin {fin : List Oper → Act → (World → Prop) → List Value → Prop} {n : Nat} {os : List Oper} {a : Act} {F : Nat → World → Prop} {Φ : World → Prop} {N : List Value} (h : fin os a Φ N) : RW3 (bs := bs) P ops w0 ns fin n os [] a F Φ N := by cases os <;> exact h
theorem RW3_at {fin : List Oper → Act → (World → Prop) → List Value → Prop} (h : RW3 P ops w0 ns fin 0 ops.toList fs a0 (fun _ _ => True) (fun _ => True) []) (hm : fs.length ≤ ops.size) (vals : Nat → Value) :
    ∀ k, k ≤ fs.length → RW3 P ops w0 ns fin k (ops.toList.drop k) (fs.drop k) (actN ops a0 vals k) (env2 fs vals k) (phi2 fs vals k) (newN ns vals k) := by
  intro k
  induction k with
  | zero => intro _; exact h
  | succ k ih =>
    intro hk
    have h1 := ih (by omega)
    have ho : k < ops.toList.length := by simp; omega
    rw [List.drop_eq_getElem_cons ho, List.drop_eq_getElem_cons (show k < fs.length by omega)] at h1
    have h2 := h1.2 (vals k)
    have hd : dstOf ops k = (ops.toList[k]'ho).dst := by
      have : ops[k]? = some (ops.toList[k]'ho) := by simp at ho ⊢
      simp [dstOf, this]
    have hf : fs[k]? = some (fs[k]'(by omega)) := List.getElem?_eq_getElem _
    simp only [actN, env2, phi2, newN, hd, hf, Option.map_some, Option.getD_some]
    exact h2
theorem any3 {bs : List Nat} {fs : List (FactW bs)} {m : Nat} {cl : List Nat} (G : Good2 ops m cl fs) (hn : fs.length = m) (hmo : m ≤ ops.size) (all : List Nat) (hall' : ∀ (k : Nat) (f : FactW bs), fs[k]? = some f → ∀ x ∈ f.wr, x ∈ all)
    (H : RW3 P ops w0 ns (fun os a Φ N => ∀ w, KpL (sel bs all) w0 w → Φ w → N.Nodup → wpList P ops Q os a w) 0 ops.toList fs a0 (fun _ _ => True) (fun _ => True) []) :
    ∀ (fuel : Nat) (U : List Nat) (listed : Array Bool) (vals : Nat → Value) (w : World) (W : List Nat), U.Nodup → U.length ≤ fuel → listed.size = ops.size → (∀ j, j < ops.size → (listed.getD j true = false ↔ j ∈ U)) →
      (∀ i, i < ops.size → i ∉ U → ∀ j, j < ops.size → Dp cl i j = true → j ∉ U) → (∀ k, m ≤ k → k < ops.size → k ∈ U) →
      KpL (sel bs W) w0 w → (∀ x ∈ W, ∃ k f, k < m ∧ k ∉ U ∧ fs[k]? = some f ∧ x ∈ f.wr) →
      (∀ j f, j < m → j ∉ U → fs[j]? = some f → (∀ k, k < m → k ∉ U → killB cl (fs.map (·.wr)) (fs.map (·.safe)) k j = false) → f.S (vals j) w) → Apart ns m U vals w →
      wpAny P .any ops Q fuel listed (actL ops a0 vals (fun j => !decide (j ∈ U)) m) w := by
  have lis : ∀ {U : List Nat} {listed : Array Bool}, listed.size = ops.size → (∀ j, j < ops.size → (listed.getD j true = false ↔ j ∈ U)) → ∀ j, j < ops.size → (listed.getD j false = true ↔ j ∉ U) := fun {U listed} hsz hU j hj => by
    have h1 := hU j hj
    have h2 : ∀ l : Array Bool, l.size = ops.size → l.getD j false = l.getD j true := fun l hl => by simp [Array.getD_eq_getD_getElem?, hl ▸ hj]
    rw [h2 _ hsz]
    cases hb : listed.getD j true <;> simp_all
  -- what is left when the first m have come up
  have fin : ∀ (U : List Nat) (listed : Array Bool) (vals : Nat → Value) (w : World) (W : List Nat) (fuel : Nat), U.Nodup → U.length ≤ fuel → listed.size = ops.size → (∀ j, j < ops.size → (listed.getD j true = false ↔ j ∈ U)) →
      (∀ k, m ≤ k → k < ops.size → k ∈ U) → (∀ i, i < m → i ∉ U) → KpL (sel bs W) w0 w → (∀ x ∈ W, ∃ k f, k < m ∧ k ∉ U ∧ fs[k]? = some f ∧ x ∈ f.wr) →
      (∀ j f, j < m → j ∉ U → fs[j]? = some f → (∀ k, k < m → k ∉ U → killB cl (fs.map (·.wr)) (fs.map (·.safe)) k j = false) → f.S (vals j) w) → Apart ns m U vals w →
      wpAny P .any ops Q fuel listed (actL ops a0 vals (fun j => !decide (j ∈ U)) m) w := by
    intro U listed vals w W fuel hnd hlen hsz hU htl hall hx hW hS hK
    have hR := RW3_at H (by omega) vals m (by omega)
    rw [List.drop_eq_nil_of_le (show fs.length ≤ m by omega)] at hR
    have hfin : ∀ w, KpL (sel bs all) w0 w → phi2 fs vals m w → (newN ns vals m).Nodup → wpList P ops Q (ops.toList.drop m) (actN ops a0 vals m) w := by
      cases hd : ops.toList.drop m <;> rw [hd] at hR <;> exact hR
    have hphi : ∀ n, n ≤ m → phi2 fs vals n w := by
      intro n; induction n with
      | zero => intro _; trivial
      | succ n ihn =>
        intro hnn; refine ⟨ihn (by omega), ?_⟩
        rw [List.getElem?_eq_getElem (show n < fs.length by omega)]
        exact fun hl => hS n _ (by omega) (hall n (by omega)) (List.getElem?_eq_getElem _) fun k hk _ => G.live n _ (List.getElem?_eq_getElem _) hl k hk
    have hact : ∀ n, n ≤ m → actL ops a0 vals (fun j => !decide (j ∈ U)) n = actN ops a0 vals n := by
      intro n; induction n with
      | zero => intro _; rfl
      | succ n ihn => intro hn; rw [actL_succ, ihn (by omega)]; simp [actN, hall n (by omega)]
    rw [hact _ (Nat.le_refl _)]
    have hlenU : ops.size - m ≤ U.length := by
      have hsub : (List.range' m (ops.size - m)).length ≤ U.length := List.Nodup.length_le_of_subset (List.nodup_range' (step := 1)) fun k hk => by
        rw [List.mem_range'_1] at hk; exact htl k hk.1 (by omega)
      simpa using hsub
    refine tail2 G (ops.size - m) m listed _ w (by omega) (Nat.le_refl _) hsz (fun j hj => ?_) (hfin w (hx.mono (sel_sub fun x hxW => ?_)) (hphi m (Nat.le_refl _)) (hK.nodup hall m (Nat.le_refl _))) fuel (by omega)
    · by_cases hjm : j < m
      · have : ¬ listed.getD j true = false := fun h => hall j hjm ((hU j hj).1 h)
        simp only [Bool.not_eq_false] at this
        rw [this]; simp [hjm]
      · rw [(hU j hj).2 (htl j (by omega) hj)]; simp [hjm]
    · obtain ⟨k, f, _, _, hf, hm⟩ := hW x hxW
      exact hall' k f hf x hm
  intro fuel
  induction fuel with
  | zero =>
    intro U listed vals w W hnd hlen hsz hU hcl htl hx hW hS hK
    have hU0 : U = [] := List.length_eq_zero_iff.1 (by omega)
    subst hU0
    exact fin [] listed vals w W 0 hnd hlen hsz hU htl (by simp) hx hW hS hK
  | succ fuel ih =>
    intro U listed vals w W hnd hlen hsz hU hcl htl hx hW hS hK
    by_cases hall : ∀ i, i < m → i ∉ U
    · exact fin U listed vals w W (fuel + 1) hnd hlen hsz hU htl hall hx hW hS hK
    · have hex : ∃ i, i < m ∧ i ∈ U := Classical.byContradiction fun h => hall fun i hi hu => h ⟨i, hi, hu⟩
      have least : ∃ i, i < m ∧ i ∈ U ∧ ∀ j, j < i → j ∉ U := by
        obtain ⟨i, hi, hu⟩ := hex
        induction i using Nat.strongRecOn with
        | _ i ihh =>
          by_cases h : ∃ j, j < i ∧ j ∈ U
          · obtain ⟨j, hj, hju⟩ := h; exact ihh j hj (by omega) hju
          · exact ⟨i, hi, hu, fun j hj hju => h ⟨j, hj, hju⟩⟩
      obtain ⟨i0, hi0, hu0, hl0⟩ := least
      have hi0' : i0 < ops.size := by omega
      have hr0 : i0 ∈ Region.ready .any ops listed := by
        refine mem_ready.2 ⟨(hU i0 hi0').2 hu0, ops[i0], Array.getElem?_eq_some_iff.2 ⟨hi0', rfl⟩, fun e he hb => ?_⟩
        have hk := G.back i0 _ (Array.getElem?_eq_some_iff.2 ⟨hi0', rfl⟩) e he hb
        exact (lis hsz hU e.on (by omega)).2 (hl0 _ hk)
      refine ⟨fun h0 => (by rw [h0] at hr0; cases hr0), fun i hir => ?_⟩
      obtain ⟨hun, o, ho, hlisted⟩ := mem_ready.1 hir
      have hisz := (Array.getElem?_eq_some_iff.1 ho).1
      have hiU := (hU i hisz).1 hun
      -- what it waits for has come up
      have hdone : ∀ j, Dp cl i j = true → j < ops.size → j ∉ U := fun j hd hj => by
        obtain ⟨e, he, hb, h⟩ := G.clo i o ho j hd
        have hel := hlisted e he hb
        have hei := G.back i o ho e he hb
        have heU := (lis hsz hU e.on (by omega)).1 hel
        rcases h with rfl | h
        · exact heU
        · exact hcl e.on (by omega) heU j hj h
      have hnot : ∀ k, k < ops.size → k ∉ U → Dp cl k i = false := fun k hk hkU => by
        cases hd : Dp cl k i with
        | false => rfl
        | true => exact absurd hiU (hcl k hk hkU i hisz hd)
      have him : i < m := by
        rcases Nat.lt_or_ge i m with h | h
        · exact h
        · exact absurd hu0 (hdone i0 (G.tail i hisz h i0 (by omega)) hi0')
      obtain ⟨f, hf⟩ : ∃ f, fs[i]? = some f := ⟨_, List.getElem?_eq_getElem (by omega)⟩
      have hR := RW3_at H (by omega) vals i (by omega)
      have hol : i < ops.toList.length := by simp; omega
      rw [List.drop_eq_getElem_cons hol, List.drop_eq_getElem_cons (show i < fs.length by omega)] at hR
      have e1 : ops.toList[i]'hol = o := by
        have := (Array.getElem?_eq_some_iff.1 ho).2
        simpa using this
      have e2 : fs[i]'(by omega) = f := (List.getElem?_eq_some_iff.1 hf).2
      rw [e1, e2] at hR
      have hbef : KpL (sel bs f.bef) w0 w := hx.mono (sel_sub fun x hxW => by
        obtain ⟨k, g, hk, hkU, hg, hm⟩ := hW x hxW
        exact G.bef i f k g hf hg (fun e => hkU (e ▸ hiU)) (hnot k (by omega) hkU) x hm)
      have hfacts : facts (env2 fs vals i) w f.deps := facts_of fun j hj => by
        obtain ⟨hji, hjd, hjk⟩ := G.dep i f hf j hj
        have hgj : fs[j]? = some (fs[j]'(by omega)) := List.getElem?_eq_getElem _
        rw [env2_at hgj i hji]
        exact hS j _ (by omega) (hdone j hjd (by omega)) hgj fun k hk hkU => hjk k hk (fun e => hkU (e ▸ hiU)) (hnot k (by omega) hkU)
      have h1 := hR.1 w hbef hfacts
      have slots : ∀ t ∈ o.looksAt ops, (actL ops a0 vals (fun j => !decide (j ∈ U)) m).tmps[t]? = (actN ops a0 vals i).tmps[t]? := fun t ht => by
        have := slot_lex2 (ops := ops) (a0 := a0) vals (fun j => !decide (j ∈ U)) i t m fun j hj hd => by
          rcases G.look i o him ho t ht j hj hd with rfl | ⟨h1, h2⟩ | ⟨h1, h2⟩
          · exact .inr ⟨Nat.le_refl _, by simp [hiU]⟩
          · exact .inl ⟨h1, by simp [hdone j h2 (by omega)]⟩
          · refine .inr ⟨Nat.le_of_lt h1, ?_⟩
            have : j ∈ U := Classical.byContradiction fun h => by
              have := hnot j (by omega) h
              rw [h2] at this; cases this
            simp [this]
        rw [this, Nat.min_eq_right (by omega)]
      have hex' := execOp_of_slots (ops := ops) (o := o) (fun cs b => Region.noSelect_spec G.sel i o cs b ho) slots
      have hwa := wanted_of_slots (ops := ops) (o := o) slots
      have step : ∀ v w', f.S v w' → KpL (sel bs f.wr) w w' → (ns.contains i = true → NewB w v w') →
          wpAny P .any ops Q fuel (listed.setIfInBounds i true) ((actL ops a0 vals (fun j => !decide (j ∈ U)) m).put o.dst v) w' := fun v w' hv hx' hnw => by
        have h1 := ih (U.erase i) (listed.setIfInBounds i true) (fun j => if j = i then v else vals j) w' (W ++ f.wr) (hnd.erase i) (by rw [List.length_erase_of_mem hiU]; omega) (by simp [hsz]) (fun j hj => by
          rw [hnd.mem_erase_iff]
          by_cases hji : i = j
          · subst hji; simp [hsz, hj]
          · rw [getD_set_ne true hji, hU j hj]; simp [Ne.symm hji]) (fun k hk hkU j hj hd => by
          rw [hnd.mem_erase_iff] at hkU ⊢
          rintro ⟨hji, hjU⟩
          by_cases hki : k = i
          · subst hki; exact hdone j hd hj hjU
          · exact hcl k hk (fun h => hkU ⟨hki, h⟩) j hj hd hjU) (fun k hk hk' => by
          rw [hnd.mem_erase_iff]; exact ⟨by omega, htl k hk hk'⟩) (hx.kl hx' (sel_sub fun x hx => List.mem_append_left _ hx) (sel_sub fun x hx => List.mem_append_right _ hx)) (fun x hx => by
          rcases List.mem_append.1 hx with hx | hx
          · obtain ⟨k, g, hk, hkU, hg, hm⟩ := hW x hx
            exact ⟨k, g, hk, fun h => hkU (hnd.mem_erase_iff.1 h).2, hg, hm⟩
          · exact ⟨i, f, him, fun h => (hnd.mem_erase_iff.1 h).1 rfl, hf, hx⟩) (fun j g hj hjU hg hkill => by
          by_cases hji : j = i
          · subst hji; rw [hf] at hg; cases hg; simpa using hv
          · have hjU' : j ∉ U := fun h => hjU (hnd.mem_erase_iff.2 ⟨hji, h⟩)
            simp only [if_neg hji]
            have hk1 := hkill i him (fun h => (hnd.mem_erase_iff.1 h).1 rfl)
            have hsafe : ∀ x ∈ f.wr, x ∈ g.safe := by
              simp only [killB, Bool.and_eq_false_iff, bne_eq_false_iff_eq, Bool.not_eq_false'] at hk1
              rcases hk1 with (h | h) | h
              · exact absurd h.symm hji
              · exact absurd hiU (hcl j (by omega) hjU' i hisz h)
              · have := sub_spec h
                simpa [List.getD_eq_getElem?_getD, hf, hg] using this
            exact g.st _ _ _ (hx'.mono (sel_sub hsafe)) (hS j g hj hjU' hg fun k hk hkU => hkill k hk fun h => hkU (hnd.mem_erase_iff.1 h).2)) (hK.step' hnd hiU hx'.size hnw)
        have hd : o.dst = dstOf ops i := by simp [dstOf, ho]
        have h2 := actL_set (ops := ops) (a0 := a0) vals (fun j => !decide (j ∈ U)) i v (by simp [hiU]) m (fun j hj hne d hd => G.dst i him j hj hne d hd) m (Nat.le_refl _)
        rw [if_pos him, ← hd] at h2
        have h3 : (fun j => if j = i then true else !decide (j ∈ U)) = (fun j => !decide (j ∈ U.erase i)) := by
          funext j
          by_cases hji : j = i
          · subst hji; simp [hnd.mem_erase_iff]
          · simp [hji, hnd.mem_erase_iff]
        rw [h3] at h2
        rw [← h2]; exact h1
      unfold wpOp
      rw [ho]
      by_cases hw : Region.wanted o (yielded ops (actL ops a0 vals (fun j => !decide (j ∈ U)) m).tmps) = true
      · simp only [hw, if_true]
        exact .inl ((does_congr hex'.symm (h1.1 (hwa ▸ hw))).wp fun v w' ⟨hv, hx', hnw⟩ => step v w' hv hx' hnw)
      · simp only [Bool.not_eq_true] at hw
        simp only [hw, Bool.false_eq_true, if_false]
        obtain ⟨hv, hx', hnw⟩ := h1.2 (hwa ▸ hw)
        exact step undef w hv hx' hnw
theorem region_any3 {id : Nat} {l : List Oper} {a : Act} {w : World} (bs ns cl all : List Nat) (fs : List (FactW bs)) (hm : P.follows .mixedOrders = true)
    (hchk : (chk2 l.toArray fs.length cl (fs.map (·.deps)) (fs.map (·.bef)) (fs.map (·.wr)) (fs.map (·.safe)) (fs.map (·.live)) && decide (fs.length ≤ l.length) && fs.all fun f => sub f.wr all) = true)
    (H : RW3 P l.toArray w.drew ns (fun os a Φ N => ∀ w', KpL (sel bs all) w.drew w' → Φ w' → N.Nodup → wpList P l.toArray Q os a w') 0 l fs a (fun _ _ => True) (fun _ => True) []) : (Code.region id l.toArray true).wp P Q a w := by
  simp only [Bool.and_eq_true, decide_eq_true_eq] at hchk
  have hle : fs.length ≤ l.toArray.size := by simpa using hchk.1.2
  have G := chk2_good rfl hchk.1.1
  refine wp_region_any hm ?_
  have h := any3 (Q := Q) (ns := ns) G rfl hle all (fun k f hf => sub_spec (List.all_eq_true.1 hchk.2 f (List.mem_of_getElem? hf))) (by simpa using H) l.toArray.size (List.range l.toArray.size) (Array.replicate l.toArray.size false) (fun _ => undef) w.drew []
    List.nodup_range (by simp) (by simp) (fun j hj => by simp at hj; simp [hj]) (fun i hi hiU => absurd (List.mem_range.2 hi) hiU) (fun k _ hk => by simpa using hk) (KpL.refl _ _) (fun x hx => by cases hx) (fun i f him hiU _ => absurd (List.mem_range.2 (by omega)) hiU) ⟨fun i hi hiU => absurd (List.mem_range.2 (by omega)) hiU, fun i j hi hj hiU => absurd (List.mem_range.2 (by omega)) hiU⟩
  have ha : ∀ n, n ≤ l.toArray.size → actL l.toArray a (fun _ => undef) (fun j => !decide (j ∈ List.range l.toArray.size)) n = a := by
    intro n; induction n with
    | zero => intro _; rfl
    | succ n ih => intro hn; rw [actL_succ, ih (by omega)]; simp at hn ⊢; omega
  rw [ha _ hle] at h
  exact h
end
end Go.Proofs.Ytjopopmipdakkaa
