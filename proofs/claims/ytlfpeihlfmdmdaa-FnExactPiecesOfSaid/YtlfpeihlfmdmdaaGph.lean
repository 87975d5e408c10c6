/- things that hang together: numbered by a search -/
import Derived.Test.YtlfpeihlfmdmdaaNrm
namespace Go.Proofs.Ytlfpeihlfmdmdaa
open Go

inductive Conn (c : Int → Bool) (nb : Int → List Int) (i : Int) : Int → Prop
  | refl : Conn c nb i i
  | step {k l : Int} : Conn c nb i k → l ∈ nb k → c l = true → Conn c nb i l
structure Gr (n : Nat) (c : Int → Bool) (nb : Int → List Int) : Prop where
  rng : ∀ k : Int, 0 ≤ k ∧ k < n → c k = true → ∀ l ∈ nb k, 0 ≤ l ∧ l < n
  sym : ∀ k l : Int, 0 ≤ k ∧ k < n → c k = true → c l = true → l ∈ nb k → k ∈ nb l
section
variable {n : Nat} {c : Int → Bool} {nb : Int → List Int} {i k l m x : Int} {o out td : List Int}
theorem Conn.trans (h : Conn c nb i k) (h2 : Conn c nb k l) : Conn c nb i l := by
  induction h2 with
  | refl => exact h
  | step _ h3 h4 ih => exact ih.step h3 h4
theorem Conn.rng (G : Gr n c nb) (hi : 0 ≤ i ∧ i < n) (hc : c i = true) (h : Conn c nb i l) : (0 ≤ l ∧ l < n) ∧ c l = true := by
  induction h with
  | refl => exact ⟨hi, hc⟩
  | step _ h3 h4 ih => exact ⟨G.rng _ ih.1 ih.2 _ h3, h4⟩
theorem Conn.sym (G : Gr n c nb) (hi : 0 ≤ i ∧ i < n) (hc : c i = true) (h : Conn c nb i l) : Conn c nb l i := by
  induction h with
  | refl => exact .refl
  | step h2 h3 h4 ih => exact Conn.trans (.step .refl (G.sym _ _ (h2.rng G hi hc).1 (h2.rng G hi hc).2 h4 h3) (h2.rng G hi hc).2) ih
/-- the same things hang together where neighbours are alike, but for themselves -/
theorem Conn.alike {nb2 : Int → List Int} (G : Gr n c nb) (ha : ∀ k : Int, 0 ≤ k ∧ k < n → c k = true → ∀ l, l ∈ nb k → l = k ∨ l ∈ nb2 k) (hi : 0 ≤ i ∧ i < n) (hc : c i = true) (h : Conn c nb i l) : Conn c nb2 i l := by
  induction h with
  | refl => exact .refl
  | step h2 h3 h4 ih =>
    have hr := h2.rng G hi hc
    rcases ha _ hr.1 hr.2 _ h3 with h | h
    · exact h ▸ ih
    · exact ih.step h h4
open Classical in
noncomputable def markR (n : Nat) (c : Int → Bool) (nb : Int → List Int) (o : List Int) (i m : Int) : List Int := (List.range n).map fun (k : Nat) => if Conn c nb i (k : Int) then m else iAt o k
theorem markR_len : (markR n c nb o i m).length = n := by simp [markR]
open Classical in
theorem markR_at {j : Nat} (hj : j < n) : iAt (markR n c nb o i m) j = if Conn c nb i (j : Int) then m else iAt o j := by
  unfold markR iAt
  rw [List.getElem?_map, List.getElem?_range hj]; rfl
noncomputable def numTo (n : Nat) (c : Int → Bool) (nb : Int → List Int) : Nat → List Int × Int
  | 0 => (List.replicate n (-1), 0)
  | i + 1 => if 0 ≤ iAt (numTo n c nb i).1 i ∨ c i = false then numTo n c nb i else (markR n c nb (numTo n c nb i).1 i (numTo n c nb i).2, (numTo n c nb i).2 + 1)
theorem numTo_skip {j : Nat} (h : 0 ≤ iAt (numTo n c nb j).1 j ∨ c j = false) : numTo n c nb (j + 1) = numTo n c nb j := by
  show (if _ then _ else _) = _; rw [if_pos h]
theorem numTo_new {j : Nat} (h1 : iAt (numTo n c nb j).1 j < 0) (h2 : c j = true) : numTo n c nb (j + 1) = (markR n c nb (numTo n c nb j).1 j (numTo n c nb j).2, (numTo n c nb j).2 + 1) := by
  show (if _ then _ else _) = _; rw [if_neg (by rw [h2]; intro h; rcases h with h | h; exact absurd h (by omega); cases h)]
theorem numTo_len (n : Nat) (c : Int → Bool) (nb : Int → List Int) : ∀ j, (numTo n c nb j).1.length = n
  | 0 => by simp [numTo]
  | j + 1 => by unfold numTo; split; exact numTo_len n c nb j; exact markR_len
theorem numTo_m (n : Nat) (c : Int → Bool) (nb : Int → List Int) : ∀ j : Nat, 0 ≤ (numTo n c nb j).2 ∧ (numTo n c nb j).2 ≤ j
  | 0 => by simp [numTo]
  | j + 1 => by have := numTo_m n c nb j; unfold numTo; split; omega; dsimp only; omega
theorem numTo_closed (G : Gr n c nb) : ∀ j : Nat, j ≤ n → ∀ k l : Nat, k < n → l < n → Conn c nb (k : Int) l → 0 ≤ iAt (numTo n c nb j).1 k → 0 ≤ iAt (numTo n c nb j).1 l
  | 0, _, k, l, hk, hl, h, h0 => by
    exfalso
    simp [numTo, iAt, hk] at h0
  | j + 1, hj, k, l, hk, hl, h, h0 => by
    by_cases hs : 0 ≤ iAt (numTo n c nb j).1 j ∨ c j = false
    · rw [numTo_skip hs] at h0 ⊢; exact numTo_closed G j (by omega) k l hk hl h h0
    · rw [numTo_new (by omega) (by simpa using fun h => hs (.inr h))] at h0 ⊢
      have hm := numTo_m n c nb j
      dsimp only at h0 ⊢
      rw [markR_at hk] at h0
      rw [markR_at hl]
      split
      · omega
      · rename_i hn
        rw [if_neg fun hc => hn (hc.trans h)] at h0
        exact numTo_closed G j (by omega) k l hk hl h h0
/-- what hangs together with one that is not numbered is not numbered -/
theorem numTo_free (G : Gr n c nb) {j : Nat} (hj : j < n) (h1 : iAt (numTo n c nb j).1 j < 0) (h2 : c j = true) {k : Nat} (hk : k < n) (h : Conn c nb (j : Int) k) : iAt (numTo n c nb j).1 k < 0 := by
  rcases Int.lt_or_le (iAt (numTo n c nb j).1 k) 0 with h3 | h3
  · exact h3
  · have := numTo_closed G j (by omega) k j hk hj (h.sym G (by omega) h2) h3
    omega
def neg (l : List Int) : Nat := l.countP fun x => decide (x < 0)
theorem neg_le (l : List Int) : neg l ≤ l.length := List.countP_le_length
theorem neg_set {e m : Int} : ∀ {l : List Int} {j : Nat}, l[j]? = some e → e < 0 → 0 ≤ m → neg (l.set j m) + 1 = neg l
  | a :: l, 0, h, he, hm => by
    cases h
    simp [neg, List.countP_cons, he]
    omega
  | a :: l, j + 1, h, he, hm => by
    have := neg_set (l := l) (j := j) h he hm
    simp only [neg, List.set_cons_succ, List.countP_cons] at this ⊢; omega
theorem iAt_set {l : List Int} {j k : Nat} {v : Int} (hj : j < l.length) : iAt (l.set j v) k = if k = j then v else iAt l k := by
  unfold iAt
  rw [List.getElem?_set]
  by_cases h : j = k
  · subst h; rw [if_pos rfl, if_pos hj, if_pos rfl]; rfl
  · rw [if_neg h, if_neg (fun e => h e.symm)]
structure Fld (n : Nat) (c : Int → Bool) (nb : Int → List Int) (o : List Int) (i m : Int) (out td : List Int) : Prop where
  len : out.length = n
  self : iAt out i.toNat = m
  val : ∀ k : Nat, k < n → iAt out k = iAt o k ∨ (iAt out k = m ∧ Conn c nb i k)
  tdc : ∀ x ∈ td, Conn c nb i x
  ok : ∀ k : Nat, k < n → Conn c nb i k → iAt out k = m → (k : Int) ∈ td ∨ ∀ l ∈ nb k, c l = true → 0 ≤ iAt out l.toNat
  sz : neg out + td.length ≤ n
theorem Fld.start {i : Nat} {e : Int} (hi : i < n) (ho : o.length = n) (he : o[i]? = some e) (h0 : e < 0) (hm : 0 ≤ m) (hf : ∀ k : Nat, k < n → Conn c nb (i : Int) k → iAt o k < 0) : Fld n c nb o i m (o.set i m) [(i : Int)] where
  len := by rw [List.length_set]; exact ho
  self := by rw [iAt_set (by omega), if_pos (by omega)]
  val := fun k hk => by
    rw [iAt_set (by omega)]
    by_cases h : k = i
    · rw [if_pos h]; exact .inr ⟨rfl, h ▸ .refl⟩
    · rw [if_neg h]; exact .inl rfl
  tdc := fun x hx => by rw [List.mem_singleton.1 hx]; exact .refl
  ok := fun k hk hc h => by
    by_cases h1 : k = i
    · exact .inl (by rw [h1]; simp)
    · rw [iAt_set (by omega), if_neg h1] at h
      have := hf k hk hc; omega
  sz := by
    have h1 := neg_set he h0 hm
    have h2 := neg_le o
    simp only [List.length_cons, List.length_nil]; omega
theorem Fld.put {e : Int} (h : Fld n c nb o i m out (x :: td)) (hx : k ∈ nb x) (hc : c k = true) (hk : 0 ≤ k ∧ k < n) (he : out[k.toNat]? = some e) (h0 : e < 0) (hm : 0 ≤ m) : Fld n c nb o i m (out.set k.toNat m) (x :: (td ++ [k])) where
  len := by rw [List.length_set]; exact h.len
  self := by
    have := h.len
    rw [iAt_set (by omega)]; split; rfl; exact h.self
  val := fun j hj => by
    have := h.len
    rw [iAt_set (by omega)]
    by_cases e1 : j = k.toNat
    · rw [if_pos e1]; refine .inr ⟨rfl, ?_⟩
      rw [show (j : Int) = k by omega]; exact (h.tdc x (by simp)).step hx hc
    · rw [if_neg e1]; exact h.val j hj
  tdc := fun z hz => by
    simp only [List.mem_cons, List.mem_append, List.not_mem_nil, or_false] at hz
    rcases hz with rfl | hz | rfl
    · exact h.tdc _ (by simp)
    · exact h.tdc _ (by simp [hz])
    · exact (h.tdc x (by simp)).step hx hc
  ok := fun j hj hcj hv => by
    have := h.len
    rw [iAt_set (by omega)] at hv
    by_cases e1 : j = k.toNat
    · exact .inl (by rw [show (j : Int) = k by omega]; simp)
    · rw [if_neg e1] at hv
      rcases h.ok j hj hcj hv with h1 | h1
      · exact .inl (by simp only [List.mem_cons, List.mem_append] at h1 ⊢; exact h1.imp id .inl)
      · refine .inr fun l hl hcl => ?_
        rw [iAt_set (by omega)]; split; exact hm; exact h1 l hl hcl
  sz := by
    have h1 := neg_set he h0 hm
    have h2 := h.sz
    simp only [List.length_cons, List.length_append, List.length_nil] at h2 ⊢; omega
theorem Fld.pop (h : Fld n c nb o i m out (x :: td)) (hd : ∀ l ∈ nb x, c l = true → 0 ≤ iAt out l.toNat) : Fld n c nb o i m out td where
  len := h.len
  self := h.self
  val := h.val
  tdc := fun z hz => h.tdc z (by simp [hz])
  ok := fun k hk hc hv => by
    rcases h.ok k hk hc hv with h1 | h1
    · rcases List.mem_cons.1 h1 with h1 | h1
      · rw [h1]; exact .inr hd
      · exact .inl h1
    · exact .inr h1
  sz := by have := h.sz; simp only [List.length_cons] at this; omega
theorem Fld.last (h : Fld n c nb o i m out (td ++ [x])) : Fld n c nb o i m out (x :: td) where
  len := h.len
  self := h.self
  val := h.val
  tdc := fun z hz => h.tdc z (by simp only [List.mem_append, List.mem_cons, List.not_mem_nil, or_false] at hz ⊢; exact hz.symm)
  ok := fun k hk hc hv => (h.ok k hk hc hv).imp (fun h1 => by simp only [List.mem_append, List.mem_cons, List.not_mem_nil, or_false] at h1 ⊢; exact h1.symm) id
  sz := by have := h.sz; simp only [List.length_cons, List.length_append, List.length_nil] at this ⊢; omega
/-- what comes ahead of a place in the row of neighbours has been looked at -/
def Pre (c : Int → Bool) (ns out : List Int) (j : Nat) : Prop := ∀ l ∈ ns.take j, c l = true → 0 ≤ iAt out l.toNat
theorem Pre.start {ns : List Int} : Pre c ns out 0 := fun l hl => by simp at hl
theorem Pre.all {ns : List Int} {j : Nat} (h : Pre c ns out j) (hj : ns.length ≤ j) : ∀ l ∈ ns, c l = true → 0 ≤ iAt out l.toNat := fun l hl => h l (by rw [List.take_of_length_le hj]; exact hl)
theorem Pre.skip {ns : List Int} {j : Nat} (h : Pre c ns out j) (hk : ns[j]? = some k) (h1 : c k = true → 0 ≤ iAt out k.toNat) : Pre c ns out (j + 1) := fun l hl hc => by
  rw [List.take_add_one, hk] at hl
  simp only [Option.toList_some, List.mem_append, List.mem_singleton] at hl
  rcases hl with hl | rfl
  · exact h l hl hc
  · exact h1 hc
theorem Pre.put {ns : List Int} {j : Nat} (h : Pre c ns out j) (hk : ns[j]? = some k) (hl : k.toNat < out.length) (hm : 0 ≤ m) : Pre c ns (out.set k.toNat m) (j + 1) := fun l h2 hc => by
  rw [List.take_add_one, hk] at h2
  simp only [Option.toList_some, List.mem_append, List.mem_singleton] at h2
  rw [iAt_set hl]
  split
  · exact hm
  · rename_i h3
    rcases h2 with h2 | rfl
    · exact h l h2 hc
    · exact absurd rfl h3
theorem Fld.finish (G : Gr n c nb) {i : Nat} (hi : i < n) (hc : c i = true) (hf : ∀ k : Nat, k < n → Conn c nb (i : Int) k → iAt o k < 0) (h : Fld n c nb o i m out []) : out = markR n c nb o i m := by
  have hall : ∀ l : Int, Conn c nb (i : Int) l → iAt out l.toNat = m := by
    intro l hl
    induction hl with
    | refl => exact h.self
    | step h2 h3 h4 ih =>
      rename_i k l
      have hk := h2.rng G (by omega) hc
      have hl := G.rng _ hk.1 hk.2 _ h3
      have e1 : ((k.toNat : Nat) : Int) = k := by omega
      have e2 : ((l.toNat : Nat) : Int) = l := by omega
      rcases h.ok k.toNat (by omega) (by rw [e1]; exact h2) ih with h5 | h5
      · cases h5
      · rw [e1] at h5
        have h6 := h5 _ h3 h4
        rcases h.val l.toNat (by omega) with h7 | h7
        · have := hf l.toNat (by omega) (by rw [e2]; exact h2.step h3 h4)
          omega
        · exact h7.1
  refine List.ext_getElem? fun j => ?_
  rcases Nat.lt_or_ge j n with hj | hj
  · have a1 : out[j]? = some (iAt out j) := by unfold iAt; rw [List.getElem?_eq_getElem (by rw [h.len]; exact hj)]; rfl
    have a2 : (markR n c nb o i m)[j]? = some (iAt (markR n c nb o i m) j) := by unfold iAt; rw [List.getElem?_eq_getElem (by rw [markR_len]; exact hj)]; rfl
    rw [a1, a2, markR_at hj]
    split
    · rename_i h1; have := hall j h1; simp at this; rw [this]
    · rename_i h1
      rcases h.val j hj with h2 | h2
      · rw [h2]
      · exact absurd h2.2 h1
  · rw [List.getElem?_eq_none (by rw [h.len]; exact hj), List.getElem?_eq_none (by rw [markR_len]; exact hj)]
end
end Go.Proofs.Ytlfpeihlfmdmdaa
