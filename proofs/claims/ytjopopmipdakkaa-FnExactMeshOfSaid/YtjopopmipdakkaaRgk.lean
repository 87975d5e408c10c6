/- Regions in any order with stores into known blocks and into blocks that the region itself makes. -/
import Derived.Test.YtjopopmipdakkaaRgm
namespace Go.Proofs.Ytjopopmipdakkaa
open Go Go.RowKit
def pblk : Value → Option Nat
  | .pointer (some a) => some a.block
  | _ => none
structure FactV (bs : List Nat) (N0 : Nat) where
  deps : List Nat
  bef : List Nat
  wr : List Nat
  safe : List Nat
  own : Option Nat
  ino : Bool
  nb : Bool
  sn : Bool
  live : Bool
  S : Value → Value → World → Prop
  st : ∀ o v w w' L, KpL L w w' → (∀ b ∈ L, b ∈ sel bs safe ∨ (sn = true ∧ N0 ≤ b ∧ (nb = true → pblk (if ino then o else v) ≠ some b))) → S o v w → S o v w'
section
variable {P : Program} {ops : Array Oper} {Q : Exit → Act → World → Prop} {w0 : World} {a0 : Act} {bs : List Nat} {N0 : Nat} {fs : List (FactV bs N0)} {ns : List Nat}
def keyN (own : List (Option Nat)) (ino : List Bool) (i : Nat) : Nat := if ino.getD i false then (own.getD i none).getD i else i
def killN (cl : List Nat) (own : List (Option Nat)) (ino nb sn : List Bool) (k i : Nat) : Bool :=
  match own.getD k none with
  | none => false
  | some j => ino.getD k false && k != i && !Dp cl i k && (!sn.getD i false || (nb.getD i false && keyN own ino i == j))
structure GoodN (m : Nat) (cl ns : List Nat) (fs : List (FactV bs N0)) : Prop where
  own : ∀ (i : Nat) (f : FactV bs N0) (j : Nat), fs[i]? = some f → f.own = some j → j < i ∧ Dp cl i j = true ∧ (f.ino = true → ns.contains j = true)
  nb : ∀ (i : Nat) (f : FactV bs N0), fs[i]? = some f → (f.ino = true → f.own.isSome = true) ∧ (f.nb = true → ns.contains (if f.ino then f.own.getD i else i) = true)
  dep : ∀ (i : Nat) (f : FactV bs N0), fs[i]? = some f → ∀ j ∈ f.deps, ∀ k, k < m → k ≠ i → Dp cl k i = false → killN cl (fs.map (·.own)) (fs.map (·.ino)) (fs.map (·.nb)) (fs.map (·.sn)) k j = false
  live : ∀ (j : Nat) (f : FactV bs N0), fs[j]? = some f → f.live = true → ∀ k, k < m → killN cl (fs.map (·.own)) (fs.map (·.ino)) (fs.map (·.nb)) (fs.map (·.sn)) k j = false
end
end Go.Proofs.Ytjopopmipdakkaa
