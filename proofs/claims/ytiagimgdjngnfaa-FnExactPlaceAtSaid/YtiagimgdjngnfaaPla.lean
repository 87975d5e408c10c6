/- names, keys, things, and where a thing is at a time -/
import Derived.Test.YtiagimgdjngnfaaKey
import Derived.Test.YtiagimgdjngnfaaTrod
import Derived.Test.YtiagimgdjngnfaaStr
namespace Go.Proofs.Ytiagimgdjngnfaa
open Go Go.RowKit Go.WideShapes Go.Deep

def RT : Rel ByteArray := fun _ s cs => cs = [.string s] ∧ s.size ≤ 9223372036854775807
theorem Rd.str {P : Program} {t : TypeId} (h : P.underlying t = some .string) : Rd RT P t := fun enc w base spare held n cs x hx => by
  obtain ⟨s, h1, _, hs⟩ := DataW.trod_string h hx
  exact ⟨s, h1, by simpa [maxLen] using hs⟩
/-! names -/
def nmAt (s : ByteArray) (i : Nat) : Bool := !(icmp .lss ((byteAt s i : Nat) : Int) 97 || icmp .gtr ((byteAt s i : Nat) : Int) 122)
def isNm (s : ByteArray) : Bool := (List.range s.size).all (nmAt s) && (icmp .geq (s.size : Int) 1 && icmp .leq (s.size : Int) 8)
def NmTo (s : ByteArray) (k : Nat) : Prop := ∀ j, j < k → nmAt s j = true
theorem NmTo.zero {s : ByteArray} : NmTo s 0 := fun j hj => by omega
theorem NmTo.step {s : ByteArray} {k : Nat} (h : NmTo s k) (h1 : ¬ ((byteAt s k : Nat) : Int) < 97) (h2 : ¬ (122 : Int) < ((byteAt s k : Nat) : Int)) : NmTo s (k + 1) := fun j hj => by
  rcases Nat.lt_or_ge j k with h' | h'
  · exact h j h'
  · obtain rfl : j = k := by omega
    simp [nmAt, icmp]; omega
theorem isNm_bad {s : ByteArray} {k : Nat} (hk : (k : Int) < s.size) (h : ((byteAt s k : Nat) : Int) < 97 ∨ (122 : Int) < ((byteAt s k : Nat) : Int)) : isNm s = false := by
  have : (List.range s.size).all (nmAt s) = false := by
    rw [List.all_eq_false]
    refine ⟨k, List.mem_range.2 (by omega), ?_⟩
    simp only [nmAt, icmp, Bool.not_eq_true, Bool.not_eq_false', Bool.or_eq_true, decide_eq_true_eq]; omega
  simp [isNm, this]
theorem isNm_ok {s : ByteArray} {k : Nat} (h : NmTo s k) (hk : ¬ (k : Int) < s.size) : isNm s = (icmp .geq (s.size : Int) 1 && icmp .leq (s.size : Int) 8) := by
  have : (List.range s.size).all (nmAt s) = true := by
    rw [List.all_eq_true]; intro j hj; exact h j (by have := List.mem_range.1 hj; omega)
  simp [isNm, this]
/-! keys -/
def kD (ks : List KeyT) (j : Nat) : KeyT := (ks[j]?).getD ⟨0, zV⟩
theorem kD_at {ks : List KeyT} {j : Nat} {e : KeyT} (h : ks[j]? = some e) : kD ks j = e := by simp [kD, h]
def keyOk (ks : List KeyT) (j : Nat) : Bool := inI (kD ks j).at_ 0 10000 && finV (kD ks j).place && (decide (j = 0) || icmp .lss (kD ks (j - 1)).at_ (kD ks j).at_)
def keysOk (ks : List KeyT) : Bool := inI (ks.length : Int) 1 8 && (List.range ks.length).all (keyOk ks)
def KeyTo (ks : List KeyT) (k : Nat) : Prop := ∀ j, j < k → keyOk ks j = true
theorem KeyTo.zero {ks : List KeyT} : KeyTo ks 0 := fun j hj => by omega
theorem KeyTo.step {ks : List KeyT} {k : Nat} (h : KeyTo ks k) (h1 : keyOk ks k = true) : KeyTo ks (k + 1) := fun j hj => by
  rcases Nat.lt_or_ge j k with h' | h'
  · exact h j h'
  · obtain rfl : j = k := by omega
    exact h1
theorem keysOk_bad {ks : List KeyT} {k : Nat} (hk : (k : Int) < ks.length) (h : keyOk ks k = false) : keysOk ks = false := by
  have : (List.range ks.length).all (keyOk ks) = false := by
    rw [List.all_eq_false]; exact ⟨k, List.mem_range.2 (by omega), by simp [h]⟩
  simp [keysOk, this]
theorem keysOk_ok {ks : List KeyT} {k : Nat} (h : KeyTo ks k) (hk : ¬ (k : Int) < ks.length) : keysOk ks = inI (ks.length : Int) 1 8 := by
  have : (List.range ks.length).all (keyOk ks) = true := by
    rw [List.all_eq_true]; intro j hj; exact h j (by have := List.mem_range.1 hj; omega)
  simp [keysOk, this]
theorem keysOk_len {ks : List KeyT} (h : (ks.length : Int) < 1 ∨ (8 : Int) < ks.length) : keysOk ks = false := by
  have : inI (ks.length : Int) 1 8 = false := by
    cases hq : inI (ks.length : Int) 1 8 with
    | false => rfl
    | true => have := inI_iff.1 hq; omega
  simp [keysOk, this]
def lastK (ks : List KeyT) (k : Nat) : Int := if k = 0 then -1 else (kD ks (k - 1)).at_
theorem lastK_succ {ks : List KeyT} {k : Nat} {e : KeyT} (h : ks[k]? = some e) : lastK ks (k + 1) = e.at_ := by simp [lastK, kD_at h]
theorem lastK_bd {ks : List KeyT} {k : Nat} (h : KeyTo ks k) : -1 ≤ lastK ks k ∧ lastK ks k ≤ 10000 := by
  unfold lastK
  split
  · omega
  · have := h (k - 1) (by omega)
    simp only [keyOk, Bool.and_eq_true] at this
    have := inI_iff.1 this.1.1; omega
theorem key_spec {ks : List KeyT} {k : Nat} {e : KeyT} (h : KeyTo ks k) (he : ks[k]? = some e) : keyOk ks k = (inI e.at_ (lastK ks k + 1) 10000 && finV e.place) := by
  have hb := lastK_bd h
  have e1 : keyOk ks k = (inI e.at_ 0 10000 && finV e.place && (decide (k = 0) || icmp .lss (kD ks (k - 1)).at_ e.at_)) := by unfold keyOk; rw [kD_at he]
  rw [e1, Bool.and_assoc, Bool.and_comm (finV e.place), ← Bool.and_assoc]
  congr 1
  rw [Bool.eq_iff_iff, Bool.and_eq_true, Bool.or_eq_true, inI_iff, inI_iff, decide_eq_true_eq]
  simp only [icmp, decide_eq_true_eq]
  unfold lastK at hb ⊢
  by_cases hk : k = 0
  · rw [if_pos hk]; omega
  · rw [if_neg hk] at hb ⊢; omega
theorem key_imp_bad {ks : List KeyT} {k : Nat} {e : KeyT} (he : ks[k]? = some e) (h : inI e.at_ 0 10000 = false ∨ finV e.place = false) : keyOk ks k = false := by
  unfold keyOk; rw [kD_at he]; rcases h with h | h <;> simp [h]
theorem key_impF {ks : List KeyT} {k : Nat} {e d : KeyT} (he : ks[k]? = some e) (hd : ks[((k : Int) - 1).toNat]? = some d) (h : (inI e.at_ 0 10000 = false ∨ finV e.place = false) ∨ ((k : Int) > 0 ∧ d.at_ ≥ e.at_)) : keyOk ks k = false := by
  unfold keyOk; rw [kD_at he]
  rcases h with (h | h) | ⟨h1, h2⟩
  · simp [h]
  · simp [h]
  · have hd' : ks[k - 1]? = some d := by rw [← hd]; congr 1; omega
    rw [kD_at hd']
    have : (decide (k = 0) || icmp .lss d.at_ e.at_) = false := by simp [icmp]; omega
    rw [this, Bool.and_false]
theorem key_impT {ks : List KeyT} {k : Nat} {e d : KeyT} (he : ks[k]? = some e) (hd : ks[((k : Int) - 1).toNat]? = some d) (h : (inI e.at_ 0 10000 = true ∧ finV e.place = true) ∧ (¬ (k : Int) > 0 ∨ ¬ d.at_ ≥ e.at_)) : keyOk ks k = true := by
  unfold keyOk; rw [kD_at he, h.1.1, h.1.2]
  by_cases hk : k = 0
  · simp [hk]
  · have hd' : ks[k - 1]? = some d := by rw [← hd]; congr 1; omega
    rw [kD_at hd']
    simp [icmp, hk]; omega
/-! things -/
def thingOk (t : ThingT) : Bool := isNm t.name && isShape t.shape && keysOk t.keys
theorem thingOk_bad {t : ThingT} (h : keysOk t.keys = false) : thingOk t = false := by simp [thingOk, h]
def sameKey (a b : KeyT) : Bool := icmp .eql a.at_ b.at_ && sameV a.place b.place
theorem sameKey_self (a : KeyT) : sameKey a a = true := by simp [sameKey, icmp, sameV_self]
def sameThing (a b : ThingT) : Bool := !(a.name.toList != b.name.toList) && sameShp a.shape b.shape && sameX sameKey a.keys b.keys
theorem sameThing_self (a : ThingT) : sameThing a a = true := by simp [sameThing, sameShp_self, sameX_self sameKey_self]
def thTot (t : ThingT) : Nat := t.name.size + (ndTot t.shape.nodes + t.keys.length)
/-! where it is -/
def btwV (a b : V3) (t : Nat) : V3 := vadd a (vscale (vsub b a) t)
def betK (a b : KeyT) (t : Int) : V3 := btwV a.place b.place (fop .quo .f32 (nrF (IntKind.i64.wrap (t - a.at_))) (nrF (IntKind.i64.wrap (b.at_ - a.at_))))
def plcF (ks : List KeyT) (t : Int) : V3 :=
  if t ≤ (kD ks 0).at_ then (kD ks 0).place else
  let j := findI (fun j => decide (1 ≤ j) && decide (t ≤ (kD ks j).at_)) (List.range ks.length)
  if j = -1 then (kD ks (ks.length - 1)).place else if t = (kD ks j.toNat).at_ then (kD ks j.toNat).place else betK (kD ks (j.toNat - 1)) (kD ks j.toNat) t
/-- none of the keys from 1 on before k is reached -/
def LateTo (ks : List KeyT) (t : Int) (k : Nat) : Prop := ∀ j, 1 ≤ j → j < k → (kD ks j).at_ < t
theorem LateTo.one {ks : List KeyT} {t : Int} : LateTo ks t 1 := fun j h1 h2 => by omega
theorem LateTo.step {ks : List KeyT} {t : Int} {k : Nat} {e : KeyT} (h : LateTo ks t k) (he : ks[k]? = some e) (h1 : ¬ t = e.at_) (h2 : ¬ t < e.at_) : LateTo ks t (k + 1) := fun j hj hk => by
  rcases Nat.lt_or_ge j k with h' | h'
  · exact h j hj h'
  · obtain rfl : j = k := by omega
    rw [kD_at he]; omega
theorem late_find {ks : List KeyT} {t : Int} {k : Nat} {e : KeyT} (h : LateTo ks t k) (h1 : 1 ≤ k) (he : ks[k]? = some e) (ht : t ≤ e.at_) : findI (fun j => decide (1 ≤ j) && decide (t ≤ (kD ks j).at_)) (List.range ks.length) = k := by
  have hl := (List.getElem?_eq_some_iff.1 he).1
  refine findI_at (x := k) (fun j hj x hx => ?_) (by rw [List.getElem?_range hl]) (by simp [h1, kD_at he, ht])
  rw [List.getElem?_range (by omega)] at hx
  cases hx
  by_cases hj1 : 1 ≤ j
  · have := h j hj1 hj; simp; omega
  · simp; omega
theorem late_none {ks : List KeyT} {t : Int} {k : Nat} (h : LateTo ks t k) (hk : ks.length ≤ k) : findI (fun j => decide (1 ≤ j) && decide (t ≤ (kD ks j).at_)) (List.range ks.length) = -1 := by
  refine findI_none (k := ks.length) (fun j hj x hx => ?_) (by simp)
  rw [List.getElem?_range (by omega)] at hx
  cases hx
  by_cases hj1 : 1 ≤ j
  · have := h j hj1 (by omega); simp; omega
  · simp; omega
theorem plc_0 {ks : List KeyT} {t : Int} {e : KeyT} (he : ks[0]? = some e) (h : t ≤ e.at_) : plcF ks t = e.place := by
  unfold plcF; rw [kD_at he, if_pos h]
theorem plc_at {ks : List KeyT} {t : Int} {k : Nat} {e0 e : KeyT} (he0 : ks[0]? = some e0) (h0 : ¬ t ≤ e0.at_) (h : LateTo ks t k) (h1 : 1 ≤ k) (he : ks[k]? = some e) (ht : t = e.at_) : plcF ks t = e.place := by
  unfold plcF
  rw [kD_at he0, if_neg h0, late_find h h1 he (by omega)]
  simp only [Int.toNat_natCast, kD_at he]
  rw [if_neg (by omega), if_pos ht]
theorem plc_bt {ks : List KeyT} {t : Int} {k : Nat} {e0 e d : KeyT} (he0 : ks[0]? = some e0) (h0 : ¬ t ≤ e0.at_) (h : LateTo ks t k) (h1 : 1 ≤ k) (he : ks[k]? = some e) (ht : ¬ t = e.at_) (ht2 : t < e.at_) (hd : ks[((k : Int) - 1).toNat]? = some d) : plcF ks t = betK d e t := by
  unfold plcF
  rw [kD_at he0, if_neg h0, late_find h h1 he (by omega)]
  have hd' : ks[k - 1]? = some d := by rw [← hd]; congr 1; omega
  simp only [Int.toNat_natCast, kD_at he, kD_at hd']
  rw [if_neg (by omega), if_neg ht]
theorem plc_end {ks : List KeyT} {t : Int} {k : Nat} {e0 e : KeyT} (he0 : ks[0]? = some e0) (h0 : ¬ t ≤ e0.at_) (h : LateTo ks t k) (hk : ¬ (k : Int) < ks.length) (he : ks[((ks.length : Int) - 1).toNat]? = some e) : plcF ks t = e.place := by
  unfold plcF
  have he' : ks[ks.length - 1]? = some e := by rw [← he]; congr 1; omega
  rw [kD_at he0, if_neg h0, late_none h (by omega), kD_at he']
  rfl
theorem keysOk_pos {ks : List KeyT} (h : keysOk ks = true) : 1 ≤ ks.length ∧ ks.length ≤ 8 := by
  simp only [keysOk, Bool.and_eq_true] at h
  have := inI_iff.1 h.1; omega
theorem thing_pos {t : ThingT} (h : thingOk t = true) : 1 ≤ t.keys.length ∧ t.keys.length ≤ 8 := by
  simp only [thingOk, Bool.and_eq_true] at h
  exact keysOk_pos h.2
def plcOk (t : ThingT) (time : Int) : Bool := thingOk t && inI time 0 10000
theorem plcOk_f {t : ThingT} {time : Int} (h : thingOk t = false ∨ inI time 0 10000 = false) : plcOk t time = false := by rcases h with h | h <;> simp [plcOk, h]
theorem plcOk_t {t : ThingT} {time : Int} (h : thingOk t = true ∧ inI time 0 10000 = true) : plcOk t time = true := by simp [plcOk, h.1, h.2]
end Go.Proofs.Ytiagimgdjngnfaa
