/- edges between neighbours in a grid: counted from below, or from the inside -/
import Derived.Test.YtlfpeihlfmdmdaaUni
namespace Go.Proofs.Ytlfpeihlfmdmdaa
open Go

def sumTo (f : Nat → Nat) : Nat → Nat
  | 0 => 0
  | k + 1 => sumTo f k + f k
theorem sumTo_congr {f g : Nat → Nat} : ∀ {n : Nat}, (∀ k, k < n → f k = g k) → sumTo f n = sumTo g n
  | 0, _ => rfl
  | n + 1, h => by simp only [sumTo]; rw [sumTo_congr fun k hk => h k (by omega), h n (by omega)]
theorem sumTo_add (f g : Nat → Nat) : ∀ n, sumTo (fun k => f k + g k) n = sumTo f n + sumTo g n
  | 0 => rfl
  | n + 1 => by simp only [sumTo]; rw [sumTo_add f g n]; omega
theorem sumTo_zero : ∀ n, sumTo (fun _ => 0) n = 0
  | 0 => rfl
  | n + 1 => by simp only [sumTo]; rw [sumTo_zero n]
theorem sumTo_comm (f : Nat → Nat → Nat) (m : Nat) : ∀ n, sumTo (fun i => sumTo (f i) m) n = sumTo (fun k => sumTo (fun i => f i k) n) m
  | 0 => by simp only [sumTo]; rw [sumTo_zero]
  | n + 1 => by simp only [sumTo]; rw [sumTo_comm f m n, ← sumTo_add]
theorem sumTo_le {f : Nat → Nat} {c : Nat} (h : ∀ k, f k ≤ c) : ∀ n, sumTo f n ≤ c * n
  | 0 => by simp [sumTo]
  | n + 1 => by have h1 := sumTo_le h n; have h2 := h n; simp only [sumTo]; rw [Nat.mul_succ]; omega
theorem sumTo_one (x : Nat) : ∀ n, sumTo (fun k => if k = x then 1 else 0) n = if x < n then 1 else 0
  | 0 => by simp [sumTo]
  | n + 1 => by
    simp only [sumTo]; rw [sumTo_one x n]
    by_cases h1 : x < n
    · have : n ≠ x := by omega
      simp [h1, this, show x < n + 1 by omega]
    · by_cases h2 : n = x
      · subst h2; simp
      · simp [h1, h2, show ¬ x < n + 1 by omega]
/-- a count, by what is counted -/
theorem countP_sum (p : Int → Bool) (n : Nat) : ∀ (l : List Int), (∀ x ∈ l, 0 ≤ x ∧ x < n) → l.countP p = sumTo (fun k => if p (k : Int) then l.countP (fun x => decide (x = (k : Int))) else 0) n
  | [], _ => by
    simp only [List.countP_nil]
    rw [sumTo_congr (g := fun _ => 0) fun k _ => by simp, sumTo_zero]
  | x :: l, h => by
    have ih := countP_sum p n l fun y hy => h y (by simp [hy])
    obtain ⟨h0, h1⟩ := h x (by simp)
    obtain ⟨m, rfl⟩ := Int.eq_ofNat_of_zero_le h0
    have e : sumTo (fun k => if p (k : Int) then (((m : Int) :: l).countP fun x => decide (x = (k : Int))) else 0) n = sumTo (fun k => (if p (k : Int) then l.countP (fun x => decide (x = (k : Int))) else 0) + (if k = m then (if p (m : Int) then 1 else 0) else 0)) n := by
      refine sumTo_congr fun k _ => ?_
      rw [List.countP_cons]
      by_cases hk : k = m
      · subst hk; cases p (k : Int) <;> simp
      · have : ¬ ((m : Int) = (k : Int)) := by omega
        simp [hk, this]
    rw [e, sumTo_add, List.countP_cons, ih]
    congr 1
    cases hp : p (m : Int)
    · rw [sumTo_congr (g := fun _ => 0) fun k _ => by simp, sumTo_zero]; simp
    · have := sumTo_one m n
      simp only [if_true]
      rw [this, if_pos (by omega)]

theorem mod_succ {m y : Int} (_ : 0 ≤ m) (hy : 1 ≤ y) : (0 < (m + 1) % y ↔ m % y < y - 1) ∧ (m % y < y - 1 → (m + 1) / y = m / y) := by
  have h := Int.emod_add_mul_ediv m y
  have h0 := Int.emod_nonneg m (show y ≠ 0 by omega)
  have h1 := Int.emod_lt_of_pos m (show 0 < y by omega)
  have e : m + 1 = (m % y + 1) + y * (m / y) := by omega
  rw [e, Int.add_mul_emod_self_left, Int.add_mul_ediv_left _ _ (by omega)]
  by_cases hr : m % y + 1 < y
  · rw [Int.emod_eq_of_lt (by omega) hr, Int.ediv_eq_zero_of_lt (by omega) hr]
    omega
  · have : m % y + 1 = y := by omega
    rw [this, Int.emod_self]
    omega
theorem lt_of_zz {g : GridT} {k : Int} (h : isGrid g = true) (hz : k / g.x / g.y < g.z) : k < g.vals.length := by
  obtain ⟨hx, hy, hzz, hl, _⟩ := isGrid_cnt h
  have h1 := (Int.ediv_lt_iff_lt_mul (show 0 < g.y by omega)).1 hz
  have h2 := (Int.ediv_lt_iff_lt_mul (show 0 < g.x by omega)).1 h1
  rw [hl]
  have e : g.z * g.y * g.x = g.x * g.y * g.z := by rw [Int.mul_comm (g.z * g.y), Int.mul_comm g.z, Int.mul_assoc]
  omega
theorem zz_lt {g : GridT} {k : Int} (h : isGrid g = true) (hk : k < g.vals.length) : k / g.x / g.y < g.z := by
  obtain ⟨hx, hy, hzz, hl, _⟩ := isGrid_cnt h
  refine (Int.ediv_lt_iff_lt_mul (show 0 < g.y by omega)).2 ((Int.ediv_lt_iff_lt_mul (show 0 < g.x by omega)).2 ?_)
  have e : g.z * g.y * g.x = g.x * g.y * g.z := by rw [Int.mul_comm (g.z * g.y), Int.mul_comm g.z, Int.mul_assoc]
  omega
/-- steps along the axes -/
theorem step_x {g : GridT} {i : Int} (h : isGrid g = true) (hi : 0 ≤ i) : (0 < (i + 1) % g.x ↔ i % g.x < g.x - 1) ∧ (i % g.x < g.x - 1 → (i + 1) / g.x = i / g.x) := by
  obtain ⟨hx, _⟩ := isGrid_cnt h; exact mod_succ hi hx.1
theorem step_y {g : GridT} {i : Int} (h : isGrid g = true) (hi : 0 ≤ i) : (i + g.x) / g.x = i / g.x + 1 ∧ (0 < (i + g.x) / g.x % g.y ↔ i / g.x % g.y < g.y - 1) ∧ (i / g.x % g.y < g.y - 1 → (i + g.x) / g.x / g.y = i / g.x / g.y) := by
  obtain ⟨hx, hy, _⟩ := isGrid_cnt h
  have e : (i + g.x) / g.x = i / g.x + 1 := by
    have := Int.add_mul_ediv_left i 1 (show g.x ≠ 0 by omega)
    rwa [Int.mul_one] at this
  rw [e]
  exact ⟨rfl, mod_succ (Int.ediv_nonneg hi (by omega)) hy.1⟩
theorem step_z {g : GridT} {i : Int} (h : isGrid g = true) : (i + g.x * g.y) / g.x / g.y = i / g.x / g.y + 1 := by
  obtain ⟨hx, hy, _⟩ := isGrid_cnt h
  rw [Int.add_mul_ediv_left _ _ (by omega)]
  have := Int.add_mul_ediv_left (i / g.x) 1 (show g.y ≠ 0 by omega)
  rwa [Int.mul_one] at this
theorem nb_cases {g : GridT} {i x : Int} (hx : x ∈ nb g i) : (0 < i / g.x / g.y ∧ x = i - g.x * g.y) ∨ (0 < i / g.x % g.y ∧ x = i - g.x) ∨ (0 < i % g.x ∧ x = i - 1) ∨ (i % g.x < g.x - 1 ∧ x = i + 1) ∨
    (i / g.x % g.y < g.y - 1 ∧ x = i + g.x) ∨ (i / g.x / g.y < g.z - 1 ∧ x = i + g.x * g.y) := by
  have part : ∀ {c : Prop} [Decidable c] {e : Int}, x ∈ (if c then [e] else []) → c ∧ x = e := fun {c} _ {e} h => by
    split at h
    · exact ⟨by assumption, by simpa using h⟩
    · cases h
  simp only [nb, nbK, nbPart, List.nil_append, List.mem_append] at hx
  rcases hx with ((((hx | hx) | hx) | hx) | hx) | hx <;> have := part hx <;> simp [this]
theorem nb_mem {g : GridT} {i x : Int} (h : isGrid g = true) (hi : 0 ≤ i ∧ i < g.vals.length) (hx : x ∈ nb g i) : 0 ≤ x ∧ x < g.vals.length := by
  obtain ⟨a1, a2, a3, a4, a5, a6, a7, a8, a9⟩ := nb_pre h hi
  have hz := zz_lt h hi.2
  rcases nb_cases hx with ⟨hc, rfl⟩ | ⟨hc, rfl⟩ | ⟨hc, rfl⟩ | ⟨hc, rfl⟩ | ⟨hc, rfl⟩ | ⟨hc, rfl⟩
  · have h1 := Int.mul_le_of_le_ediv (show 0 < g.y by omega) (show 1 ≤ i / g.x / g.y by omega)
    have h2 := Int.mul_le_of_le_ediv (show 0 < g.x by omega) h1
    rw [Int.one_mul, Int.mul_comm] at h2
    omega
  · have h0 : i / g.x ≠ 0 := fun e => by rw [e] at hc; simp at hc
    have h2 := Int.mul_le_of_le_ediv (show 0 < g.x by omega) (show 1 ≤ i / g.x by omega)
    omega
  · have h0 : i ≠ 0 := fun e => by rw [e] at hc; simp at hc
    omega
  · refine ⟨by omega, lt_of_zz h ?_⟩
    rw [(step_x h hi.1).2 hc]; exact hz
  · refine ⟨by omega, lt_of_zz h ?_⟩
    rw [(step_y h hi.1).2.2 hc]; exact hz
  · refine ⟨by omega, lt_of_zz h ?_⟩
    rw [step_z h]; omega
def ind (c : Prop) [Decidable c] : Nat := if c then 1 else 0
theorem ind_iff {c d : Prop} [Decidable c] [Decidable d] (h : c ↔ d) : ind c = ind d := by unfold ind; by_cases hc : c <;> simp [hc, ← h]
theorem part_count {c : Prop} [Decidable c] (e k : Int) : (if c then [e] else []).countP (fun x => decide (x = k)) = ind (c ∧ e = k) := by
  unfold ind; by_cases hc : c <;> by_cases he : e = k <;> simp [hc, he]
theorem nb_count (g : GridT) (i k : Int) : (nb g i).countP (fun x => decide (x = k)) = ind (0 < i / g.x / g.y ∧ i - g.x * g.y = k) + ind (0 < i / g.x % g.y ∧ i - g.x = k) + ind (0 < i % g.x ∧ i - 1 = k) + ind (i % g.x < g.x - 1 ∧ i + 1 = k) +
    ind (i / g.x % g.y < g.y - 1 ∧ i + g.x = k) + ind (i / g.x / g.y < g.z - 1 ∧ i + g.x * g.y = k) := by
  simp only [nb, nbK, nbPart, List.nil_append, List.countP_append, part_count]
theorem nb_sym {g : GridT} {i k : Int} (h : isGrid g = true) (hi : 0 ≤ i ∧ i < g.vals.length) (hk : 0 ≤ k ∧ k < g.vals.length) : (nb g i).countP (fun x => decide (x = k)) = (nb g k).countP (fun x => decide (x = i)) := by
  have sx : ∀ {i k : Int}, 0 ≤ k → ((0 < i % g.x ∧ i - 1 = k) ↔ (k % g.x < g.x - 1 ∧ k + 1 = i)) := fun {i k} hk => by
    constructor
    · rintro ⟨hc, rfl⟩
      refine ⟨(step_x h hk).1.1 ?_, by omega⟩
      rw [show i - 1 + 1 = i by omega]; exact hc
    · rintro ⟨hc, rfl⟩; exact ⟨(step_x h hk).1.2 hc, by omega⟩
  have sy : ∀ {i k : Int}, 0 ≤ k → ((0 < i / g.x % g.y ∧ i - g.x = k) ↔ (k / g.x % g.y < g.y - 1 ∧ k + g.x = i)) := fun {i k} hk => by
    constructor
    · rintro ⟨hc, rfl⟩
      refine ⟨(step_y h hk).2.1.1 ?_, by omega⟩
      rw [show i - g.x + g.x = i by omega]; exact hc
    · rintro ⟨hc, rfl⟩; exact ⟨(step_y h hk).2.1.2 hc, by omega⟩
  have sz : ∀ {i k : Int}, 0 ≤ k → i < g.vals.length → ((0 < i / g.x / g.y ∧ i - g.x * g.y = k) ↔ (k / g.x / g.y < g.z - 1 ∧ k + g.x * g.y = i)) := fun {i k} hk hi => by
    obtain ⟨hx, hy, _⟩ := isGrid_cnt h
    constructor
    · rintro ⟨hc, rfl⟩
      have h1 := step_z (i := i - g.x * g.y) h
      rw [show i - g.x * g.y + g.x * g.y = i by omega] at h1
      have h2 := zz_lt h hi
      exact ⟨by omega, by omega⟩
    · rintro ⟨hc, rfl⟩
      have h1 := step_z (i := k) h
      have h2 := Int.ediv_nonneg (Int.ediv_nonneg hk (show 0 ≤ g.x by omega)) (show 0 ≤ g.y by omega)
      exact ⟨by omega, by omega⟩
  rw [nb_count, nb_count, ind_iff (sx hk.1), ind_iff (sy hk.1), ind_iff (sz hk.1 hi.2), ← ind_iff (sx (i := k) (k := i) hi.1), ← ind_iff (sy (i := k) (k := i) hi.1), ← ind_iff (sz (i := k) (k := i) hi.1 hk.2)]
  omega

/-- is the value with an index less than zero? -/
def negAt (g : GridT) (k : Int) : Bool := negF ((g.vals[k.toNat]?).getD 0)
def edgS (g : GridT) (i : Nat) : Nat := (nb g i).countP fun k => decide ((i : Int) < k) && (negAt g i != negAt g k)
def edgI (g : GridT) (i : Nat) : Nat := (nb g i).countP fun k => negAt g i && !negAt g k
theorem edgS_le (g : GridT) (i : Nat) : edgS g i ≤ 6 := Nat.le_trans List.countP_le_length (nbK_len g i 6)
theorem edgI_le (g : GridT) (i : Nat) : edgI g i ≤ 6 := Nat.le_trans List.countP_le_length (nbK_len g i 6)
theorem edges_eq {g : GridT} (h : isGrid g = true) : sumTo (edgS g) g.vals.length = sumTo (edgI g) g.vals.length := by
  have hn : g.vals.length = g.vals.length := rfl
  generalize hN : g.vals.length = n at hn
  have mem : ∀ i : Nat, i < n → ∀ x ∈ nb g (i : Int), 0 ≤ x ∧ x < (n : Int) := fun i hi x hx => by
    have := nb_mem h (i := i) ⟨by omega, by omega⟩ hx; omega
  let c : Nat → Nat → Nat := fun i k => (nb g (i : Int)).countP fun x => decide (x = (k : Int))
  have csym : ∀ i k, i < n → k < n → c i k = c k i := fun i k hi hk => nb_sym h ⟨by omega, by omega⟩ ⟨by omega, by omega⟩
  let F : Nat → Nat → Nat := fun i k => if negAt g i && !negAt g k then c i k else 0
  have hI : sumTo (edgI g) n = sumTo (fun i => sumTo (F i) n) n := sumTo_congr fun i hi => countP_sum _ n _ (mem i hi)
  have hS : sumTo (edgS g) n = sumTo (fun i => sumTo (fun k => (if i < k then F i k else 0) + (if i < k then F k i else 0)) n) n := sumTo_congr fun i hi => by
    rw [show edgS g i = _ from countP_sum _ n _ (mem i hi)]
    refine sumTo_congr fun k hk => ?_
    by_cases hik : i < k
    · have h2 := csym i k hi hk
      simp only [F, c] at h2 ⊢
      simp only [show ((i : Int) < (k : Int)) by omega, hik, decide_true, Bool.true_and, if_true]
      rw [← h2]
      cases negAt g i <;> cases negAt g k <;> simp
    · simp [show ¬ ((i : Int) < (k : Int)) by omega, hik]
  rw [hI, hS]
  have e1 : sumTo (fun i => sumTo (fun k => (if i < k then F i k else 0) + (if i < k then F k i else 0)) n) n = sumTo (fun i => sumTo (fun k => if i < k then F i k else 0) n) n + sumTo (fun i => sumTo (fun k => if i < k then F k i else 0) n) n := by
    rw [← sumTo_add]; exact sumTo_congr fun i _ => sumTo_add _ _ n
  have e2 : sumTo (fun i => sumTo (fun k => if i < k then F k i else 0) n) n = sumTo (fun i => sumTo (fun k => if k < i then F i k else 0) n) n := sumTo_comm (fun i k => if i < k then F k i else 0) n n
  rw [e1, e2, ← sumTo_add]
  refine sumTo_congr fun i _ => ?_
  rw [← sumTo_add]
  refine sumTo_congr fun k _ => ?_
  by_cases h1 : i < k
  · simp [h1, show ¬ k < i by omega]
  · by_cases h2 : k < i
    · simp [h1, h2]
    · have : i = k := by omega
      subst this
      simp [F]
def edgesG (g : GridT) : Int := (sumTo (edgS g) g.vals.length : Nat)
theorem take_count {l : List Int} {p : Int → Bool} {k : Nat} {x : Int} (h : l[k]? = some x) : (l.take (k + 1)).countP p = (l.take k).countP p + (if p x then 1 else 0) := by
  rw [List.take_add_one, h, List.countP_append]
  cases hp : p x <;> simp [hp]
theorem take_le {l : List Int} {p : Int → Bool} {k : Nat} : (l.take k).countP p ≤ l.length := Nat.le_trans List.countP_le_length (by simp; omega)
end Go.Proofs.Ytlfpeihlfmdmdaa
