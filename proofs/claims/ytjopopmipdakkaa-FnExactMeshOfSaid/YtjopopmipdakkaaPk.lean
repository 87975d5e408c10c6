/- short forms for long texts -/
import Derived.Test.YtjopopmipdakkaaRgw
namespace Go.Proofs.Ytjopopmipdakkaa
open Go Go.RowKit

section
variable {P : Program} {ops : Array Oper} {Q : Exit → Act → World → Prop} {o : Oper} {rest : List Oper} {u : Value} {l l' : List Value} {d : Nat} {w : World}
theorem jj (h : does P o (fr l) w (Is u w)) (k : wpList P ops Q rest (fr l') w) (hg : o.guard = none := by rfl) (hd : o.dst = some d := by rfl) (hl : l.set d u = l' := by dsimp only [List.set]; try rfl) : wpList P ops Q (o :: rest) (fr l) w := q_is hg hd h hl k
theorem jm {x : Operand} {ty : TypeId} {pos : String} {af : Array Edge} (u : Value) (k : wpList P ops Q rest (fr l') w) (hx : evl l x = u := by rfl) (hl : l.set d u = l' := by dsimp only [List.set]; try rfl) : wpList P ops Q (⟨some d, .move x, ty, pos, af, none⟩ :: rest) (fr l) w := q_is rfl rfl (does_move (ev hx)) hl k
theorem ja {x : Operand} {ty : TypeId} {pos : String} {af : Array Edge} (u : Value) (k : wpList P ops Q rest (fr l') w) (hx : evl l x = u := by rfl) (hl : l.set d u = l' := by dsimp only [List.set]; try rfl) : wpList P ops Q (⟨some d, .assign x, ty, pos, af, none⟩ :: rest) (fr l) w := q_is rfl rfl (does_assign (ev hx)) hl k
theorem fz (h : wpList P ops Q rest (fr l') w) (hl : l = l' := by (try dsimp only [List.set]); try rfl) : wpList P ops Q rest (fr l) w := hl ▸ h
theorem sd {R : Value → World → Prop} (h : does P o (fr l) w R) (k : ∀ v w', R v w' → wpList P ops Q rest (fr (l.set d v)) w') (hg : o.guard = none := by rfl) (hd : o.dst = some d := by rfl) : wpList P ops Q (o :: rest) (fr l) w := seqd hg hd h k
theorem sn {R : Value → World → Prop} (h : does P o (fr l) w R) (k : ∀ v w', R v w' → wpList P ops Q rest (fr l) w') (hg : o.guard = none := by rfl) (hd : o.dst = none := by rfl) : wpList P ops Q (o :: rest) (fr l) w := seqn hg hd h k
end
section
variable {P : Program} {ops : Array Oper} {w0 : World} {fin : List Oper → Act → (World → Prop) → Prop} {o : Oper} {os : List Oper} {f : Fact} {fs : List Fact} {l : List Value} {d : Nat} {F : Nat → World → Prop} {Φ : World → Prop} {l' : Value → List Value} {x : Value} {deps : List Nat}
theorem R_d (h1 : ∀ w, Ext w0 w → facts F w f.deps → if f.float then ∃ v, Yields P ops o v (fr l) ∧ f.S v w else doesG P ops o (fr l) w (fun v w' => f.S v w' ∧ Ext w w'))
    (h2 : ∀ v, RW P ops w0 fin os fs (fr (l' v)) (fun t => if d = t then f.S v else F t) (fun w => Φ w ∧ f.S v w)) (hd : o.dst = some d := by rfl) (hl : ∀ v, l.set d v = l' v := by intro v; dsimp only [List.set]; try rfl) : RW P ops w0 fin (o :: os) (f :: fs) (fr l) F Φ := RW_d l' hd hl h1 h2
theorem R_p (h1 : ∀ u, Ext w0 u → facts F u deps → does P o (fr l) u (Is x u))
    (h2 : ∀ v, RW P ops w0 fin os fs (fr (l' v)) (fun t => if d = t then (Fact.pure deps (fun v => v = x)).S v else F t) (fun w => Φ w ∧ (Fact.pure deps (fun v => v = x)).S v w)) (hg : o.guard = none := by rfl) (hd : o.dst = some d := by rfl) (hl : ∀ v, l.set d v = l' v := by intro v; dsimp only [List.set]; try rfl) : RW P ops w0 fin (o :: os) (Fact.pure deps (fun v => v = x) :: fs) (fr l) F Φ :=
  RW_d (f := Fact.pure deps (fun v => v = x)) l' hd hl (fun u hu hF => doesG_un hg ((h1 u hu hF).mono fun _ _ ⟨a, b⟩ => ⟨a, b ▸ Ext.refl _⟩)) h2
end
section
variable {P : Program} {ops : Array Oper} {w0 : World} {bs : List Nat} {fin : List Oper → Act → (World → Prop) → Prop} {n : Nat} {o : Oper} {os : List Oper} {f : FactW bs} {fs : List (FactW bs)} {l : List Value} {d : Nat} {F : Nat → World → Prop} {Φ : World → Prop} {l' : Value → List Value} {x : Value} {deps bef safe : List Nat} {live : Bool}
theorem R2_d (h1 : ∀ w, KpL (sel bs f.bef) w0 w → facts F w f.deps → doesG P ops o (fr l) w (fun v w' => f.S v w' ∧ KpL (sel bs f.wr) w w'))
    (h2 : ∀ v, RW2 P ops w0 fin (n + 1) os fs (fr (l' v)) (fun t => if t = n then f.S v else F t) (fun w => Φ w ∧ (f.live = true → f.S v w))) (hd : o.dst = some d := by rfl) (hl : ∀ v, l.set d v = l' v := by intro v; dsimp only [List.set]; try rfl) : RW2 P ops w0 fin n (o :: os) (f :: fs) (fr l) F Φ := RW2_d l' hd hl h1 h2
theorem R2_p (h1 : ∀ u, KpL (sel bs bef) w0 u → facts F u deps → does P o (fr l) u (Is x u))
    (h2 : ∀ v, RW2 P ops w0 fin (n + 1) os fs (fr (l' v)) (fun t => if t = n then (FactW.pure (bs := bs) deps bef safe live (fun v => v = x)).S v else F t) (fun w => Φ w ∧ ((FactW.pure (bs := bs) deps bef safe live (fun v => v = x)).live = true → (FactW.pure (bs := bs) deps bef safe live (fun v => v = x)).S v w))) (hg : o.guard = none := by rfl) (hd : o.dst = some d := by rfl) (hl : ∀ v, l.set d v = l' v := by intro v; dsimp only [List.set]; try rfl) : RW2 P ops w0 fin n (o :: os) (FactW.pure deps bef safe live (fun v => v = x) :: fs) (fr l) F Φ :=
  RW2_d (f := FactW.pure deps bef safe live (fun v => v = x)) l' hd hl (fun u hu hF => doesG_un hg ((h1 u hu hF).mono fun _ _ ⟨a, b⟩ => ⟨a, b ▸ KpL.refl _ _⟩)) h2
end
section
variable {P : Program} {Q : Exit → Act → World → Prop} {a : Act} {w : World}
theorem ws {x y : Code} (h : ∀ K : Act → World → Prop, (∀ a w, y.wp P Q a w → K a w) → x.wp P (Exit.then K Q) a w) : (Code.seq x y).wp P Q a w := wp_seq_k h
theorem wr {id : Nat} {l : List Oper} {y : Code} (h : ∀ K : Act → World → Prop, (∀ a w, y.wp P Q a w → K a w) → wpList P l.toArray (Exit.then K Q) l a w) : (Code.seq (Code.region id l.toArray false) y).wp P Q a w := wp_seq_k fun K hK => wp_region_lit (h K hK)
theorem wn {ops : Array Oper} {A B : Act → World → Prop} (hK : ∀ a w, A a w → B a w) (h : A a w) (e : B a w = Q .normal a w := by rfl) : wpList P ops Q [] a w := Eq.mp e (hK a w h)
end
theorem bs : (∀ a b : Bool, ((a && b) = true) = (a = true ∧ b = true)) ∧ (∀ a b : Bool, ((a || b) = true) = (a = true ∨ b = true)) ∧ (∀ a b : Bool, ((a && b) = false) = (a = false ∨ b = false)) ∧ (∀ a b : Bool, ((a || b) = false) = (a = false ∧ b = false)) ∧ (∀ a : Bool, ((!a) = true) = (a = false)) ∧ (∀ a : Bool, ((!a) = false) = (a = true)) ∧
    (∀ (p : Prop) [Decidable p], (decide p = true) = p) ∧ (∀ (p : Prop) [Decidable p], (decide p = false) = ¬ p) ∧ (∀ {α : Type} [BEq α] [LawfulBEq α] (a b : α), ((a == b) = true) = (a = b)) ∧ (∀ {α : Type} [BEq α] [LawfulBEq α] (a b : α), ((a != b) = true) = (a ≠ b)) ∧ (∀ {α : Type} [BEq α] [LawfulBEq α] (a b : α), ((a == b) = false) = (a ≠ b)) ∧ (∀ {α : Type} [BEq α] [LawfulBEq α] (a b : α), ((a != b) = false) = (a = b)) :=
  ⟨by simp, by simp, by simp, by simp, by simp, by simp, by simp, by simp, fun _ _ => propext beq_iff_eq, fun _ _ => propext bne_iff_ne, fun _ _ => propext beq_eq_false_iff_ne, fun _ _ => propext bne_eq_false_iff_eq⟩
/-- values by their places -/
def pk : List (Nat × Value) → Nat → Value
  | [], _ => undef
  | (n, v) :: l, t => bif Nat.beq n t then v else pk l t
end Go.Proofs.Ytjopopmipdakkaa
