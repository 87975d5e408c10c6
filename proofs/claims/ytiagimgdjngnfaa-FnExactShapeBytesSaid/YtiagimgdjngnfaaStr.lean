/- strings out of bytes; a picture mirrored -/
import Derived.Test.YtiagimgdjngnfaaOwn
import Derived.Test.YtiagimgdjngnfaaUni
import Derived.Laws.BytesArg
namespace Go.Proofs.Ytiagimgdjngnfaa
open Go Go.RowKit

section
variable {P : Program} {a : Act} {w : World} {dst : Option Tmp} {ty : TypeId} {pos : String} {af : Array Edge} {g : Option (Nat × Bool)}
theorem Sl.bytes {p : Option Addr} {n c : Nat} {xs : List Int} (h : Sl RU 1 w (.slice p n c) xs) {src dst' e : TypeId} (hs : P.underlying src = some (.slice e)) (he : P.underlying e = some (.int .u8)) (hd : P.underlying dst' = some .string) :
    (convert src dst' (.slice p n c)).run P w = .ok (.string (strOfNums xs)) w := by
  have hn : xs.length = n := by obtain ⟨_, p', c', h1, _⟩ := h; cases h1; rfl
  cases xs with
  | nil =>
    have : n = 0 := by simpa using hn.symm
    subst this
    rw [run_convert_bytes_string w src dst' e p 0 c hs he hd]
    cases p with
    | none => simp [Conv.bytesToString, strOfNums]; rfl
    | some ad =>
      have hl : (loadCells ad 0).run P w = .ok (([] : List Int).map (Value.int .u8)).toArray w := by simp [loadCells, loadCellsFrom]
      rw [run_bytesToString w ad 0 c [] hl]; rfl
  | cons x xs =>
    obtain ⟨b, off, cs, hp, _, _, _⟩ := h.get 0 x rfl
    subst hp
    refine run_convert_bytes_arg w src e hs he b off n c (x :: xs) hn (fun i hi => ?_) dst' hd
    have hi' : i < (x :: xs).length := by omega
    obtain ⟨b', off', cs', hp', hc, hr, _⟩ := h.get i (x :: xs)[i] (List.getElem?_eq_getElem hi')
    cases hp'
    have hr' : cs' = [.int .u8 (x :: xs)[i]] := hr
    subst hr'
    have := hc 0 _ rfl
    simp only [Nat.mul_one, Nat.add_zero] at this
    rw [this]
    simp [List.getD, List.getElem?_eq_getElem hi']
theorem does_conv_bytes {src dst' e : TypeId} {x : Operand} {p : Option Addr} {n c : Nat} {xs : List Int} (hs : P.underlying src = some (.slice e)) (he : P.underlying e = some (.int .u8)) (hd : P.underlying dst' = some .string) (hx : a.eval x = .slice p n c) (h : Sl RU 1 w (.slice p n c) xs) :
    does P ⟨dst, .convert src dst' x, ty, pos, af, g⟩ a w (Is (.string (strOfNums xs)) w) := does_run (by
  simp only [execOp, hx, Sem.run_bind, h.bytes hs he hd, Result.andThen_ok, Sem.run_pure])
theorem does_sne {t t' : TypeId} {x y : Operand} {p q : ByteArray} (_ : P.underlying t = some .string) (hx : a.eval x = .string p) (hy : a.eval y = .string q) :
    does P ⟨dst, .binOp .neq t x y t', ty, pos, af, g⟩ a w (Is (.bool (p.toList != q.toList)) w) := does_run (by simp [execOp, hx, hy, eqGuard_at_string, binOp, Op.stringOp, bne])
end

/-- the picture's first bytes, each row from its end -/
def mirTo (c : CamT) (s : ByteArray) : Nat → List Int
  | 0 => []
  | k + 1 => mirTo c s k ++ [((byteAt s (c.width * ((k : Int) / c.width) + c.width - 1 - (k : Int) % c.width).toNat : Nat) : Int)]
def mirOk (c : CamT) (s : ByteArray) : Bool := isCam c && icmp .eql (s.size : Int) (c.width * c.height)
def mirS (c : CamT) (s : ByteArray) : ByteArray := if mirOk c s then strOfNums (mirTo c s s.size) else ⟨#[]⟩
theorem mirTo_len (c : CamT) (s : ByteArray) : ∀ k, (mirTo c s k).length = k
  | 0 => rfl
  | k + 1 => by simp [mirTo, mirTo_len c s k]
theorem isCam_wh {c : CamT} (h : isCam c = true) : (1 ≤ c.width ∧ c.width ≤ 12) ∧ (1 ≤ c.height ∧ c.height ≤ 12) := by
  unfold isCam at h
  simp only [Bool.and_eq_true] at h
  exact ⟨inI_iff.1 h.1.1.1.1.1, inI_iff.1 h.1.1.1.1.2⟩
/-- what is known of a place in a picture -/
theorem mir_pre {c : CamT} {s : ByteArray} {k : Int} (h : isCam c = true) (hs : (s.size : Int) = c.width * c.height) (hk : 0 ≤ k ∧ k < s.size) :
    (1 ≤ c.width ∧ c.width ≤ 12) ∧ (s.size : Int) ≤ 144 ∧ (0 ≤ k / c.width ∧ k / c.width ≤ k) ∧ (0 ≤ k % c.width ∧ k % c.width < c.width) ∧ 0 ≤ c.width * (k / c.width) ∧ c.width * (k / c.width) + c.width ≤ s.size ∧ c.width * (k / c.width) + k % c.width = k := by
  obtain ⟨hw, hh⟩ := isCam_wh h
  have h1 := Int.ediv_nonneg hk.1 (show 0 ≤ c.width by omega)
  have h2 := Int.ediv_le_self c.width hk.1
  have h3 := mul_lt_16 (show 1 ≤ c.width by omega) (show c.width ≤ 16 by omega) (show 0 ≤ c.height by omega) hh.2
  have h4 : k / c.width < c.height := (Int.ediv_lt_iff_lt_mul (show 0 < c.width by omega)).2 (by rw [Int.mul_comm, ← hs]; exact hk.2)
  have h5 : c.width * (k / c.width + 1) ≤ c.width * c.height := Int.mul_le_mul_of_nonneg_left (by omega) (by omega)
  rw [Int.mul_add, Int.mul_one] at h5
  have h6 : c.width * c.height ≤ 12 * 12 := Int.mul_le_mul hw.2 hh.2 (by omega) (by omega)
  have h7 := Int.mul_nonneg (show 0 ≤ c.width by omega) h1
  have h8 := Int.emod_add_mul_ediv k c.width
  exact ⟨hw, by omega, ⟨h1, h2⟩, ⟨Int.emod_nonneg _ (by omega), Int.emod_lt_of_pos _ (by omega)⟩, h7, by omega, by omega⟩
/-- row i, the j-th from its end -/
theorem mir_row {c : CamT} {i j : Nat} (hw : 1 ≤ c.width) (hj : (j : Int) < c.width) : (c.width * (i : Int) + (j : Int)) / c.width = i ∧ (c.width * (i : Int) + (j : Int)) % c.width = j := by
  have e : c.width * (i : Int) + (j : Int) = (j : Int) + c.width * (i : Int) := by omega
  rw [e, Int.add_mul_ediv_left _ _ (by omega), Int.add_mul_emod_self_left, Int.ediv_eq_zero_of_lt (by omega) hj, Int.emod_eq_of_lt (by omega) hj]
  exact ⟨by omega, rfl⟩
theorem mir_step {c : CamT} {s : ByteArray} {i j k : Nat} (hw : 1 ≤ c.width) (hj : (j : Int) < c.width) (hk : (k : Int) = c.width * (i : Int) + (j : Int)) {n : Int} (hn : n = (i : Int) * c.width + (c.width - 1 - (j : Int))) :
    mirTo c s k ++ [((byteAt s n.toNat : Nat) : Int)] = mirTo c s (k + 1) := by
  obtain ⟨h1, h2⟩ := mir_row (c := c) (i := i) (j := j) hw hj
  simp only [mirTo, hk, h1, h2, hn]
  rw [show (i : Int) * c.width + (c.width - 1 - (j : Int)) = c.width * (i : Int) + c.width - 1 - (j : Int) from by rw [Int.mul_comm]; omega]
theorem mirS_t {c : CamT} {s : ByteArray} {k : Nat} (h : mirOk c s = true) (hk : k = s.size) : mirS c s = strOfNums (mirTo c s k) := by subst hk; simp [mirS, h]
theorem mirS_f {c : CamT} {s : ByteArray} (h : mirOk c s = false) : mirS c s = ⟨#[]⟩ := by simp [mirS, h]
theorem mirOk_f {c : CamT} {s : ByteArray} (h : (!isCam c || icmp .neq (s.size : Int) (IntKind.i64.wrap (c.width * c.height))) = true) : mirOk c s = false := by
  cases hc : isCam c with
  | false => simp [mirOk, hc]
  | true =>
    obtain ⟨hw, hh⟩ := isCam_wh hc
    have h6 : c.width * c.height ≤ 12 * 12 := Int.mul_le_mul hw.2 hh.2 (by omega) (by omega)
    have h7 := Int.mul_nonneg (show 0 ≤ c.width by omega) (show 0 ≤ c.height by omega)
    rw [wrap_in (by omega) (by omega), hc] at h
    simp only [Bool.not_true, Bool.false_or, icmp] at h
    simp only [mirOk, icmp, Bool.and_eq_false_iff]
    right; simpa [bne] using h
theorem mirOk_t {c : CamT} {s : ByteArray} (h : (!isCam c || icmp .neq (s.size : Int) (IntKind.i64.wrap (c.width * c.height))) = false) : mirOk c s = true ∧ isCam c = true ∧ (s.size : Int) = c.width * c.height := by
  simp only [Bool.or_eq_false_iff, Bool.not_eq_false'] at h
  obtain ⟨hc, h⟩ := h
  obtain ⟨hw, hh⟩ := isCam_wh hc
  have h6 : c.width * c.height ≤ 12 * 12 := Int.mul_le_mul hw.2 hh.2 (by omega) (by omega)
  have h7 := Int.mul_nonneg (show 0 ≤ c.width by omega) (show 0 ≤ c.height by omega)
  rw [wrap_in (by omega) (by omega)] at h
  simp only [icmp, bne_eq_false_iff_eq] at h
  exact ⟨by simp [mirOk, hc, icmp, h], hc, h⟩
theorem mirOk_f' {c : CamT} {s : ByteArray} (h : isCam c = false ∨ ¬ (s.size : Int) = IntKind.i64.wrap (c.width * c.height)) : mirOk c s = false := mirOk_f (by
  simp only [icmp, Bool.or_eq_true, Bool.not_eq_true', bne_iff_ne]; exact h)
theorem mirOk_t' {c : CamT} {s : ByteArray} (h : isCam c = true ∧ (s.size : Int) = IntKind.i64.wrap (c.width * c.height)) : mirOk c s = true ∧ isCam c = true ∧ (s.size : Int) = c.width * c.height := mirOk_t (by
  simp only [icmp, Bool.or_eq_false_iff, Bool.not_eq_false', bne_eq_false_iff_eq]; exact h)
theorem mir_idx {c : CamT} {s : ByteArray} {i : Nat} {j : Int} (h : isCam c = true) (hs : (s.size : Int) = c.width * c.height) (hi : (i : Int) < c.height) (hj : 0 ≤ j ∧ j ≤ c.width - 1) :
    0 ≤ (i : Int) * c.width ∧ (i : Int) * c.width + j < s.size ∧ (s.size : Int) ≤ 144 := by
  obtain ⟨hw, hh⟩ := isCam_wh h
  have h5 : c.width * ((i : Int) + 1) ≤ c.width * c.height := Int.mul_le_mul_of_nonneg_left (by omega) (by omega)
  rw [Int.mul_add, Int.mul_one, Int.mul_comm c.width i] at h5
  have h6 : c.width * c.height ≤ 12 * 12 := Int.mul_le_mul hw.2 hh.2 (by omega) (by omega)
  have h7 := Int.mul_nonneg (show (0 : Int) ≤ i by omega) (show 0 ≤ c.width by omega)
  omega
theorem mir_cast {c : CamT} {i m : Nat} (hw : 1 ≤ c.width) : ((c.width.toNat * i + m : Nat) : Int) = c.width * (i : Int) + (m : Int) := by
  rw [Int.natCast_add, Int.natCast_mul, Int.toNat_of_nonneg (by omega)]
theorem mir_end {c : CamT} {s : ByteArray} {i : Nat} (hw : 1 ≤ c.width) (hs : (s.size : Int) = c.width * c.height) (hi : (i : Int) = c.height) : c.width.toNat * i = s.size := by
  have := mir_cast (c := c) (i := i) (m := 0) hw
  rw [hi, ← hs] at this
  omega
end Go.Proofs.Ytiagimgdjngnfaa
