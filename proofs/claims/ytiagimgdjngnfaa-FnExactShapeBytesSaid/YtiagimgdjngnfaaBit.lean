/- numbers told apart by their bits; programs told alike by the program's own word -/
import Derived.Test.YtiagimgdjngnfaaNod
import Derived.Test.YtiagimgdjngnfaaTrod
namespace Go.Proofs.Ytiagimgdjngnfaa
open Go Go.RowKit

/-! ### what is read, with a bound -/
def RB {α : Type} (p : α → Prop) (R : Rel α) : Rel α := fun w x cs => R w x cs ∧ p x
def bdF (x : Nat) : Prop := x < 4294967296
def bdL {α : Type} (p : α → Prop) (l : List α) : Prop := ∀ x ∈ l, p x
theorem Sl.rb {α : Type} {p : α → Prop} {R : Rel α} {k : Nat} {w : World} {v : Value} {xs : List α} (h : Sl (RB p R) k w v xs) : Sl R k w v xs ∧ bdL p xs := by
  obtain ⟨hl, q, c, rfl, h⟩ := h
  refine ⟨⟨hl, q, c, rfl, fun i x hi => ?_⟩, fun x hx => ?_⟩
  · obtain ⟨b, off, cs, hp, hc, hr, hk⟩ := h i x hi
    exact ⟨b, off, cs, hp, hc, hr.1, hk⟩
  · obtain ⟨i, hi⟩ := List.getElem?_of_mem hx
    obtain ⟨b, off, cs, hp, hc, hr, hk⟩ := h i x hi
    exact hr.2
theorem cf_lt {r : Nat} (h : r < 4294967296) : cf .f32 r < 4294967296 := by
  unfold cf; split
  · decide
  · exact h
theorem Rd.f32b {P : Program} {t : TypeId} (h : P.underlying t = some (.float .f32)) : Rd (RB bdF RF) P t := fun enc w base spare held n cs x hx => by
  cases n with
  | zero => simp [DataW.trod] at hx
  | succ n =>
    unfold DataW.trod at hx
    rw [h] at hx
    split at hx <;> simp_all
    cases ‹FloatKind.f32 = _›
    obtain ⟨⟨_, hw⟩, _⟩ := hx
    exact ⟨_, ⟨_, rfl, rfl⟩, cf_lt (by simpa [Lit.wf] using hw)⟩
theorem Rd.sliceb {α : Type} {p : α → Prop} {R : Rel α} {P : Program} {t e : TypeId} {k : Nat} (ht : P.underlying t = some (.slice e)) (he : Rd (RB p R) P e) (hk : P.cellsOf e = k) (hk0 : 0 < k) : Rd (RB (bdL p) (RS R k)) P t := fun enc w base spare held n cs x hx => by
  obtain ⟨X, v, rfl, hs⟩ := Rd.slice ht he hk hk0 enc w base spare held n cs x hx
  obtain ⟨h1, h2⟩ := hs.rb
  exact ⟨X, ⟨v, rfl, h1⟩, h2⟩

/-! ### bits -/
def nanF (x : Nat) : Bool := fcmp .neq (ford .f32 x x)
def bitsF (x : Nat) : Int := if nanF x then 2143289344 else IntKind.i64.wrap x
def sBits (x y : Nat) : Bool := icmp .eql (bitsF x) (bitsF y)
def sameN (x y : Nat) : Bool := if nanF x || nanF y then nanF x && nanF y else icmp .eql (x : Int) (y : Int)
theorem nanF_isN (x : Nat) : nanF x = isN .f32 x := by
  unfold nanF ford
  cases h : isN .f32 x
  · have h' : (FloatKind.f32.format.read x).isNaN = false := h
    have := ord_self h'
    simp only [Ieee.Format.order, this, fcmp, bne_self_eq_false]
  · obtain ⟨s, t, hx⟩ := dec_nan h
    have hx' : FloatKind.f32.format.read x = .nan s t := hx
    simp [Ieee.Format.order, hx', fcmp, Ieee.Datum.order]
theorem cf_of_nanF {x : Nat} (h : nanF (cf .f32 x) = false) : cf .f32 x = x := by
  rw [nanF_isN, isN_cf] at h; exact cf_of_num h
theorem bits_nan {x : Nat} (h : fcmp .neq (ford .f32 (cf .f32 x) (cf .f32 x)) = true) : bitsF (cf .f32 x) = 2143289344 := by
  have : nanF (cf .f32 x) = true := h
  unfold bitsF; rw [this]; rfl
theorem bits_num {x : Nat} (h : fcmp .neq (ford .f32 (cf .f32 x) (cf .f32 x)) = false) : bitsF (cf .f32 x) = IntKind.i64.wrap x := by
  have h' : nanF (cf .f32 x) = false := h
  have e := cf_of_nanF h'
  unfold bitsF; rw [h', e]; rfl
theorem sameN_nan {x y : Nat} (h : (nanF x || nanF y) = true) : sameN x y = (nanF x && nanF y) := by unfold sameN; rw [h, if_pos rfl]
theorem sameN_num {x y : Nat} (h : (nanF (cf .f32 x) || nanF (cf .f32 y)) = false) : sameN (cf .f32 x) (cf .f32 y) = icmp .eql (x : Int) (y : Int) := by
  have h1 := Bool.or_eq_false_iff.1 h
  unfold sameN; rw [h, if_neg Bool.false_ne_true, cf_of_nanF h1.1, cf_of_nanF h1.2]
theorem nan_qn : nanF 2143289344 = true := by rw [nanF_isN]; decide
theorem sBits_eq {x y : Nat} (hx : bdF x) (hy : bdF y) : sBits x y = sameN x y := by
  unfold bdF at hx hy
  unfold sBits sameN bitsF
  have ex : IntKind.i64.wrap (x : Int) = x := in_i64 (by omega) (by omega)
  have ey : IntKind.i64.wrap (y : Int) = y := in_i64 (by omega) (by omega)
  rw [ex, ey]
  cases h1 : nanF x <;> cases h2 : nanF y <;> simp [icmp]
  · intro h
    have : x = 2143289344 := by omega
    subst this
    rw [nan_qn] at h1; cases h1
  · intro h
    have : y = 2143289344 := by omega
    subst this
    rw [nan_qn] at h2; cases h2
theorem sameX_congr {α : Type} {f g : α → α → Bool} : ∀ {a b : List α}, (∀ x ∈ a, ∀ y ∈ b, f x y = g x y) → sameX f a b = sameX g a b
  | [], [], _ => rfl
  | [], _ :: _, _ => rfl
  | _ :: _, [], _ => rfl
  | x :: xs, y :: ys, h => by
    unfold sameX
    rw [h x (by simp) y (by simp), sameX_congr fun x hx y hy => h x (by simp [hx]) y (by simp [hy])]

section
variable {P : Program} {a : Act} {w : World} {dst : Option Tmp} {ty : TypeId} {pos : String} {af : Array Edge} {g : Option (Nat × Bool)}
theorem does_bits {f : FuncId} {x : Operand} {ats : Array TypeId} {p : Nat} (hx : a.eval x = .float .f32 p)
    (hf : ∀ p w, (callFunc f #[.float .f32 p]).run P w = .ok (.value (.int .u32 p)) w) : does P ⟨dst, .call ⟨.value (.func f), #[x], ats⟩, ty, pos, af, g⟩ a w (Is (.int .u32 p) w) := does_run (by
  rw [execOp_call_go]
  simp only [Array.empty_append, Array.append_empty, List.map_toArray, List.map_cons, List.map_nil, hx, hf])
end

/-! ### programs -/
def sNode (f : Nat → Nat → Bool) (x y : NodeT) : Bool := icmp .eql x.kind y.kind && icmp .eql x.a y.a && icmp .eql x.b y.b && sameX f x.nums y.nums
def sStep (f : Nat → Nat → Bool) (x y : StepT) : Bool := icmp .eql x.kind y.kind && icmp .eql x.to y.to && icmp .eql x.a y.a && icmp .eql x.b y.b && sNode f x.node y.node
def sProg (f : Nat → Nat → Bool) (x y : ProgT) : Bool := icmp .eql x.points y.points && icmp .eql x.values y.values && sameX (sStep f) x.steps y.steps
def bdN (x : NodeT) : Prop := bdL bdF x.nums
def bdS (x : StepT) : Prop := bdN x.node
def bdP (x : ProgT) : Prop := bdL bdS x.steps
theorem sProg_eq {x y : ProgT} (hx : bdP x) (hy : bdP y) : sProg sBits x y = sProg sameN x y := by
  unfold sProg
  rw [sameX_congr fun s hs t ht => ?_]
  unfold sStep sNode
  rw [sameX_congr fun a ha b hb => sBits_eq (hx s hs a ha) (hy t ht b hb)]
theorem sProg_f {f : Nat → Nat → Bool} {x y : ProgT} (h : (¬ x.points = y.points ∨ ¬ x.values = y.values) ∨ ¬ (x.steps.length : Int) = y.steps.length) : sProg f x y = false := by
  unfold sProg
  rcases h with (h | h) | h
  · simp [icmp, h]
  · simp [icmp, h]
  · rw [sameX_len (by omega)]; simp
theorem sProg_bad {f : Nat → Nat → Bool} {x y : ProgT} {k : Nat} {s t : StepT} (hl : ((x.points = y.points ∧ x.values = y.values) ∧ (x.steps.length : Int) = y.steps.length)) (h1 : x.steps[k]? = some s) (h2 : y.steps[k]? = some t) (h : sStep f s t = false) : sProg f x y = false := by
  unfold sProg
  rw [sameX_not (by omega) h1 h2 h]; simp
theorem sProg_ok {f : Nat → Nat → Bool} {x y : ProgT} {k : Nat} (hl : ((x.points = y.points ∧ x.values = y.values) ∧ (x.steps.length : Int) = y.steps.length)) (hk : ¬ (k : Int) < x.steps.length) (h : SameXTo (sStep f) x.steps y.steps k) : sProg f x y = true := by
  unfold sProg
  rw [sameX_all (by omega) (by omega) h]; simp [icmp, hl.1.1, hl.1.2]
theorem sStep_f {f : Nat → Nat → Bool} {x y : StepT} (h : ((((((¬ x.kind = y.kind ∨ ¬ x.to = y.to) ∨ ¬ x.a = y.a) ∨ ¬ x.b = y.b) ∨ ¬ x.node.kind = y.node.kind) ∨ ¬ x.node.a = y.node.a) ∨ ¬ x.node.b = y.node.b) ∨ sameX f x.node.nums y.node.nums = false) : sStep f x y = false := by
  unfold sStep sNode
  rcases h with ((((((h | h) | h) | h) | h) | h) | h) | h <;> simp [icmp, h]
theorem sStep_t {f : Nat → Nat → Bool} {x y : StepT} (h : ((((((x.kind = y.kind ∧ x.to = y.to) ∧ x.a = y.a) ∧ x.b = y.b) ∧ x.node.kind = y.node.kind) ∧ x.node.a = y.node.a) ∧ x.node.b = y.node.b) ∧ sameX f x.node.nums y.node.nums = true) : sStep f x y = true := by
  obtain ⟨⟨⟨⟨⟨⟨⟨h1, h2⟩, h3⟩, h4⟩, h5⟩, h6⟩, h7⟩, h8⟩ := h
  unfold sStep sNode
  simp [icmp, h1, h2, h3, h4, h5, h6, h7, h8]
end Go.Proofs.Ytiagimgdjngnfaa
