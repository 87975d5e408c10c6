/- bytes of numbers; strings put together -/
import Derived.Test.YtiagimgdjngnfaaShp
import Derived.Test.YtiagimgdjngnfaaBit
import Derived.Test.YtiagimgdjngnfaaStr
import Derived.Laws.Concat
namespace Go.Proofs.Ytiagimgdjngnfaa
open Go Go.RowKit

section
variable {P : Program} {a : Act} {w : World} {dst : Option Tmp} {ty : TypeId} {pos : String} {af : Array Edge} {g : Option (Nat × Bool)}
theorem does_sadd {t t' : TypeId} {x y : Operand} {p q : ByteArray} (hx : a.eval x = .string p) (hy : a.eval y = .string q) (h : p.size + q.size ≤ 9223372036854775807) :
    does P ⟨dst, .binOp .add t x y t', ty, pos, af, g⟩ a w (Is (.string (p ++ q)) w) := does_run (by
  have hr := run_string_add_sum (P := P) (w := w) p q h
  simp [execOp, hx, hy, eqGuard, binOp, hr])
theorem does_shr {t t' : TypeId} {x y : Operand} {p c : Int} {k : IntKind} (hx : a.eval x = .int .i64 p) (hy : a.eval y = .int k c) (h0 : 0 ≤ c) (h1 : c ≤ 64) :
    does P ⟨dst, .binOp .shr t x y t', ty, pos, af, g⟩ a w (Is (.int .i64 (p / 2 ^ c.toNat)) w) := does_run (by
  have hm : min c.toNat IntKind.i64.bits = c.toNat := by show min c.toNat 64 = c.toNat; omega
  simp only [execOp, hx, hy, eqGuard, binOp, shift_shr_any _ _ _ _ h0, hm]
  simp)
theorem and255 (p : Int) : IntKind.i64.wrap ((BitVec.ofInt 64 p &&& BitVec.ofInt 64 255).toNat : Nat) = p % 256 := by
  have h1 : (BitVec.ofInt 64 p &&& BitVec.ofInt 64 255).toNat = (p % 256).toNat := by
    rw [BitVec.toNat_and]
    have h2 : (BitVec.ofInt 64 255).toNat = 2 ^ 8 - 1 := by decide
    rw [h2, Nat.and_two_pow_sub_one_eq_mod, BitVec.toNat_ofInt]
    omega
  rw [h1]
  simp [IntKind.wrap, IntKind.bits, IntKind.signed]; omega
theorem does_and255 {t t' : TypeId} {x y : Operand} {p : Int} (hx : a.eval x = .int .i64 p) (hy : a.eval y = .int .i64 255) :
    does P ⟨dst, .binOp .and t x y t', ty, pos, af, g⟩ a w (Is (.int .i64 (p % 256)) w) := does_run (by
  have h := and255 p
  have hb : ∀ u, (Op.intBits .and .i64 p 255).run P u = .ok (.int .i64 (p % 256)) u := fun u => by
    have : Op.intBits .and .i64 p 255 = pure (.int .i64 (IntKind.i64.wrap ((BitVec.ofInt 64 p &&& BitVec.ofInt 64 255).toNat : Nat))) := rfl
    rw [this, h]; rfl
  simp [execOp, hx, hy, eqGuard, binOp, hb])
end
theorem in_u64 {n : Int} (h0 : 0 ≤ n) (h1 : n ≤ 18446744073709551615) : IntKind.u64.wrap n = n := by simp [IntKind.wrap, IntKind.bits, IntKind.signed]; omega
theorem u8_wrap (n : Int) : IntKind.u8.wrap n = n % 256 := by simp [IntKind.wrap, IntKind.bits, IntKind.signed]
def wordL (n : Int) (k : Nat) : List Int := (List.range k).map fun j => (n / 256 ^ j) % 256
theorem wordL_len (n : Int) (k : Nat) : (wordL n k).length = k := by simp [wordL]
theorem wordL_succ (n : Int) (k : Nat) : wordL n (k + 1) = wordL n k ++ [(n / 256 ^ k) % 256] := by simp [wordL, List.range_succ]
theorem wordI {n : Int} {k : Nat} : wordL n k ++ [IntKind.u8.wrap (n / 256 ^ k)] = wordL n (k + 1) := by rw [wordL_succ, u8_wrap]
theorem wordS' {n : Int} {k : Nat} {c : Int} (hc : c = 8 * (k : Int)) : wordL n k ++ [IntKind.u8.wrap ((n / 2 ^ c.toNat) % 256)] = wordL n (k + 1) := by
  have h1 : c.toNat = 8 * k := by omega
  have h2 : (2 : Int) ^ (8 * k) = 256 ^ k := by rw [Int.pow_mul]; rfl
  rw [wordL_succ, u8_wrap, h1, h2, Int.emod_emod]
theorem div_step (n : Int) (k : Nat) : n / 256 ^ k / 2 ^ (8 : Int).toNat = n / 256 ^ (k + 1) := by
  have h : (0 : Int) ≤ 256 ^ k := Int.pow_nonneg (by decide)
  rw [Int.ediv_ediv_of_nonneg h, Int.pow_succ]; rfl
def shN (n : Int) : Nat → Int
  | 0 => n
  | k + 1 => shN n k / 2 ^ (8 : Int).toNat
theorem shN_eq (n : Int) : ∀ k, shN n k = n / 256 ^ k
  | 0 => by simp [shN]
  | k + 1 => by unfold shN; rw [shN_eq n k, div_step]
theorem wordN {n : Int} {k : Nat} : wordL n k ++ [IntKind.u8.wrap (shN n k)] = wordL n (k + 1) := by rw [shN_eq, wordI]
def wordS (n : Int) (k : Nat) : ByteArray := strOfNums (wordL n k)
theorem wordT1 (n : Int) : wordS n (1 : Int).toNat = wordS n 1 := rfl
theorem wordT4 (n : Int) : wordS n (4 : Int).toNat = wordS n 4 := rfl
theorem wordS_size (n : Int) (k : Nat) : (wordS n k).size = k := by
  unfold wordS; rw [strOfNums_size, wordL_len]
def fltS (xs : List Nat) : Nat → ByteArray
  | 0 => ⟨#[]⟩
  | k + 1 => fltS xs k ++ wordS (bitsF ((xs[k]?).getD 0)) 4
theorem fltS_size (xs : List Nat) : ∀ k, (fltS xs k).size = 4 * k
  | 0 => rfl
  | k + 1 => by unfold fltS; rw [ByteArray.size_append, fltS_size xs k, wordS_size]; omega
theorem fltS_succ {xs : List Nat} {k x : Nat} (h : xs[k]? = some x) : fltS xs k ++ wordS (bitsF x) 4 = fltS xs (k + 1) := by simp [fltS, h]
def nodS (n : NodeT) : ByteArray := wordS n.kind 1 ++ wordS n.a 1 ++ wordS n.b 1 ++ fltS n.nums n.nums.length
theorem nodS_size (n : NodeT) : (nodS n).size = 3 + 4 * n.nums.length := by
  unfold nodS; simp only [ByteArray.size_append, wordS_size, fltS_size]
def shpS (ns : List NodeT) : Nat → ByteArray
  | 0 => wordS ns.length 1
  | k + 1 => match ns[k]? with | some n => shpS ns k ++ nodS n | none => shpS ns k
theorem shpS_succ {ns : List NodeT} {k : Nat} {n : NodeT} (h : ns[k]? = some n) : shpS ns k ++ (wordS n.kind 1 ++ wordS n.a 1 ++ wordS n.b 1 ++ fltS n.nums n.nums.length) = shpS ns (k + 1) := by simp [shpS, h, nodS]
theorem shpS_size {ns : List NodeT} (h : ∀ n ∈ ns, n.nums.length ≤ 4) : ∀ k, (shpS ns k).size ≤ 1 + 19 * k
  | 0 => by unfold shpS; rw [wordS_size]; omega
  | k + 1 => by
    unfold shpS
    split
    · rename_i n hn
      have h1 := h n (List.mem_of_getElem? hn)
      have h2 := shpS_size h k
      rw [ByteArray.size_append, nodS_size]; omega
    · have h2 := shpS_size h k; omega
theorem rlNum_le (k : Int) : rlNum k ≤ 4 := by unfold rlNum; repeat' split <;> try omega
theorem shape_nums {s : ShapeT} (h : isShape s = true) : ∀ n ∈ s.nodes, n.nums.length ≤ 4 := fun n hn => by
  simp only [isShape, Bool.and_eq_true, List.all_eq_true] at h
  obtain ⟨k, hk⟩ := List.getElem?_of_mem hn
  have hl := (List.getElem?_eq_some_iff.1 hk).1
  have := h.1.2 k (List.mem_range.2 hl)
  simp only [okAt, hk, nodeIn, Bool.and_eq_true] at this
  have h2 := this.1.2
  simp only [nodeNums, icmp, Bool.and_eq_true, beq_iff_eq] at h2
  have h3 := rlNum_le n.kind
  omega
def shpB (s : ShapeT) : ByteArray := if isShape s then shpS s.nodes s.nodes.length else ⟨#[]⟩
theorem shpB_f {s : ShapeT} (h : isShape s = false) : shpB s = ⟨#[]⟩ := by unfold shpB; rw [h]; rfl
theorem shpB_t {s : ShapeT} (h : isShape s = true) : shpB s = shpS s.nodes s.nodes.length := by unfold shpB; rw [h]; rfl
end Go.Proofs.Ytiagimgdjngnfaa
