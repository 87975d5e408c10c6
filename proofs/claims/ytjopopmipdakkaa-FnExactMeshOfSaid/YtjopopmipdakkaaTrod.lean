/- what a law is handed, read out of the cells: numbers, slices, structs. -/
import Derived.Test.YtjopopmipdakkaaTyp
import Derived.Test.YtjopopmipdakkaaOpen
import Derived.Deep.Slices
namespace Go.Proofs.Ytjopopmipdakkaa
open Go Go.RowKit Go.WideShapes Go.Deep
def Rd {α : Type} (R : Rel α) (P : Program) (t : TypeId) : Prop :=
  ∀ {H : Type} (enc : TypeId × Value → H) (w : World) (base : Nat) (spare : Nat → Bool) (held : Bool) (n : Nat) (cs : List Value) (x : DataW H × List MemPlace),
    DataW.trod enc P w base spare held n t cs = some x → ∃ X, R w X cs
theorem Rd.f32 {P : Program} {t : TypeId} (h : P.underlying t = some (.float .f32)) : Rd RF P t := fun enc w base spare held n cs x hx => by
  cases n with
  | zero => simp [DataW.trod] at hx
  | succ n =>
    unfold DataW.trod at hx
    rw [h] at hx
    split at hx <;> simp_all
    cases ‹FloatKind.f32 = _›; exact ⟨_, _, rfl, rfl⟩
theorem Rd.i64 {P : Program} {t : TypeId} (h : P.underlying t = some (.int .i64)) : Rd RI P t := fun enc w base spare held n cs x hx => by
  obtain ⟨m, rfl, _, _⟩ := DataW.trod_int h hx
  exact ⟨m, rfl⟩
theorem Rd.slice {α : Type} {R : Rel α} {P : Program} {t e : TypeId} {k : Nat} (ht : P.underlying t = some (.slice e)) (he : Rd R P e) (hk : P.cellsOf e = k) (hk0 : 0 < k) : Rd (RS R k) P t := fun enc w base spare held n cs x hx => by
  rcases open_slice ht hx with ⟨rfl, _⟩ | ⟨a, len, cap, m, n, D, Pl, rfl, hb, hl, hm, hmm, rfl, hel⟩
  · exact ⟨[], _, rfl, Sl_nil _ _ _⟩
  · rw [hk] at hel
    have hle : len ≤ m := by rw [hmm]; split <;> omega
    have el : ∀ i : Fin len, ∃ X cs', w.cells? base (a.add (i * k)) k = some cs' ∧ R w X cs' := fun i => by
      obtain ⟨cs', h1, h2⟩ := hel i (by have := i.2; omega)
      obtain ⟨X, hX⟩ := he _ _ _ _ _ _ _ _ h2
      exact ⟨X, cs', h1, hX⟩
    have hX := fun i => (el i).choose_spec
    refine ⟨List.ofFn fun i => (el i).choose, _, rfl, ?_⟩
    have hlen : (List.ofFn fun i => (el i).choose).length = len := List.length_ofFn
    refine ⟨by rw [hlen]; simp only [maxLen] at hm; omega, some a, cap, by rw [hlen], fun i X hi => ?_⟩
    have hil : i < len := by have := (List.getElem?_eq_some_iff.1 hi).1; omega
    have hXe : X = (el ⟨i, hil⟩).choose := by
      have := (List.getElem?_eq_some_iff.1 hi).2
      rw [← this, List.getElem_ofFn]
    obtain ⟨cs', h1, h2⟩ := hX ⟨i, hil⟩
    obtain ⟨_, hcl, hce⟩ := World.cells?_some h1
    have spot : a.spot = none := by
      obtain ⟨cs0, g1, _⟩ := hX ⟨0, by omega⟩
      obtain ⟨_, g2, g3⟩ := World.cells?_some g1
      have g4 := g3 0 hk0
      have h0 : (a.add ((⟨0, by omega⟩ : Fin len).val * k)).add 0 = a := by simp [Addr.add]
      rw [h0, List.getElem?_eq_getElem (by omega)] at g4
      unfold World.cell? at g4
      split at g4
      · cases hs : a.spot with
        | none => rfl
        | some s => simp [hs] at g4
      · cases g4
    have ea : a = ⟨a.block, a.off, none⟩ := by cases a; simp_all
    refine ⟨a.block, a.off, cs', by rw [← ea], ?_, by rw [hXe]; exact h2, hcl, hk0, by omega⟩
    intro j v hj
    have hjk : j < k := by have := (List.getElem?_eq_some_iff.1 hj).1; omega
    have := hce j hjk
    rw [hj] at this
    rw [add_add, ea, Addr.add_lit] at this
    rw [Nat.add_assoc]; exact this
theorem rd_fields {H : Type} {enc : TypeId × Value → H} {P : Program} {w : World} {base : Nat} {spare : Nat → Bool} {held : Bool} {n : Nat} {t : TypeId} {cs : List Value} {x : DataW H × List MemPlace} {fs : Array Field}
    (ht : P.underlying t = some (.struct fs)) (h : DataW.trod enc P w base spare held n t cs = some x) :
    cs.length = P.cellsOf t ∧ ∀ (α : Type) (R : Rel α) (i off : Nat) (e : TypeId) (k : Nat), (fs[i]?).map (fun f => (f.offset, f.type)) = some (off, e) → P.cellsOf e = k → Rd R P e → ∃ X, R w X ((cs.drop off).take k) := by
  obtain ⟨xs, m, _, _, hl, hxl, hf⟩ := DataW.trod_struct ht h
  refine ⟨hl, fun α R i off e k hi hk hR => ?_⟩
  obtain ⟨f, hf', he⟩ := Option.map_eq_some_iff.1 hi
  cases he
  have hi' := (Array.getElem?_eq_some_iff.1 hf').1
  have := hf i f hf'
  rw [List.getElem?_eq_getElem (by omega), hk] at this
  exact hR _ _ _ _ _ _ _ _ this
theorem okStruct {P : Program} {w : World} {r : Reach} {base : Nat} {t : TypeId} {v : Value} (hu : (match P.underlying t with | some (.struct _) | some (.array _ _) => true | _ => false) = true) (h : Value.okWide P w r base t v) : ∃ cs : List Value, v = .agg cs.toArray := by
  have h' : ∃ cs : Array Value, v = .agg cs ∧ cs.size = P.cellsOf t ∧ Row.okWide P w r base t cs := by
    unfold Value.okWide at h
    split at hu <;> simp_all
  obtain ⟨cs, rfl, _⟩ := h'
  exact ⟨cs.toList, rfl⟩
theorem take_split {cs : List Value} {a b n : Nat} (h : a + b = n) : cs.take n = cs.take a ++ (cs.drop a).take b := by
  subst h; rw [List.take_add]
end Go.Proofs.Ytjopopmipdakkaa
