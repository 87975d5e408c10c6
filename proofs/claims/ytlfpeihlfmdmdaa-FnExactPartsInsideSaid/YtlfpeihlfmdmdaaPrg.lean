/- parts of grids -/
import Derived.Test.YtlfpeihlfmdmdaaGph
import Derived.Test.YtlfpeihlfmdmdaaEdg
import Derived.Test.YtlfpeihlfmdmdaaTak
import Derived.Test.YtlfpeihlfmdmdaaMsh
namespace Go.Proofs.Ytlfpeihlfmdmdaa
open Go

theorem sameX_selfI (l : List Int) : sameX eqI l l = true := sameX_self (fun x => by simp [eqI, icmp]) l
theorem grG {g : GridT} (h : isGrid g = true) : Gr g.vals.length (negAt g) (nb g) where
  rng := fun _ hk _ _ hl => nb_mem h hk hl
  sym := fun k l hk _ _ hl => by
    have hr := nb_mem h hk hl
    have h1 := nb_sym h hk hr
    have h2 : 0 < (nb g k).countP (fun x => decide (x = l)) := List.countP_pos_iff.2 ⟨l, hl, by simp⟩
    rw [h1] at h2
    obtain ⟨x, hx, e⟩ := List.countP_pos_iff.1 h2
    rw [decide_eq_true_eq] at e
    exact e ▸ hx
theorem grG_pos {g : GridT} (h : isGrid g = true) : 0 < g.vals.length ∧ g.vals.length ≤ 4096 := by
  obtain ⟨hx, hy, hz, hl, hm⟩ := isGrid_cnt h
  have h1 : 1 * 1 ≤ g.x * g.y := Int.mul_le_mul hx.1 hy.1 (by omega) (by omega)
  have h2 : 1 * 1 ≤ g.x * g.y * g.z := Int.mul_le_mul (by omega) hz.1 (by omega) (by omega)
  omega
noncomputable def prtG (g : GridT) : List Int × Int := if isGrid g then numTo g.vals.length (negAt g) (nb g) g.vals.length else ([], 0)
theorem prtG_f {g : GridT} (h : isGrid g = false) : prtG g = ([], 0) := by unfold prtG; rw [h]; rfl
theorem prtG_t {g : GridT} (h : isGrid g = true) : prtG g = numTo g.vals.length (negAt g) (nb g) g.vals.length := by unfold prtG; rw [h]; rfl
theorem prtG_le (g : GridT) : (prtG g).1.length ≤ 4096 := by
  cases h : isGrid g with
  | false => rw [prtG_f h]; exact Nat.zero_le _
  | true => rw [prtG_t h, numTo_len]; exact (grG_pos h).2
theorem prtG_len {g : GridT} (h : isGrid g = true) : (prtG g).1.length = g.vals.length := by rw [prtG_t h]; exact numTo_len _ _ _ _
end Go.Proofs.Ytlfpeihlfmdmdaa
