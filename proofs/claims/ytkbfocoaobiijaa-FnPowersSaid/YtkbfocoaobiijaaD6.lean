/- Contracts of preimages; no conditions beyond those that each theorem states. -/
import Derived.Test.YtkbfocoaobiijaaD3
import Derived.Test.YtkbfocoaobiijaaD5
import Derived.Test.YtkbfocoaobiijaaL1
namespace Go.Proofs.Ytkbfocoaobiijaa
open Go.RowKit
set_option maxRecDepth 100000

def preIs (f : M) (zs : List Int) (z : Int) : Bool := decide (f.at z.toNat ∈ zs)

/-- a list of points as a mask -/
def bm : List Int → Nat
  | [] => 0
  | z :: zs => bm zs ||| 2 ^ z.toNat
def bmTo (zs : List Int) : Nat → Nat
  | 0 => 0
  | k + 1 => bmTo zs k ||| 2 ^ (gi zs k).toNat
theorem bmTo_lt {zs : List Int} (h : ∀ j, j < zs.length → 0 ≤ gi zs j ∧ gi zs j < 5) : ∀ k, k ≤ zs.length → bmTo zs k < 32
  | 0, _ => by simp [bmTo]
  | k + 1, hk => by
    have := h k (by omega)
    exact (or_run (bmTo_lt h k (by omega)) (a := (gi zs k).toNat) (by omega)).2
theorem bmTo_bit {zs : List Int} (j : Nat) : ∀ k, (bmTo zs k).testBit j = true ↔ ∃ i, i < k ∧ (gi zs i).toNat = j
  | 0 => by simp [bmTo]
  | k + 1 => by
    rw [bmTo, Nat.testBit_or, Bool.or_eq_true, bmTo_bit j k, Nat.testBit_two_pow, decide_eq_true_eq]
    constructor
    · rintro (⟨i, hi, e⟩ | e)
      · exact ⟨i, by omega, e⟩
      · exact ⟨k, by omega, e⟩
    · rintro ⟨i, hi, e⟩
      by_cases h : i = k
      · subst h; exact .inr e
      · exact .inl ⟨i, by omega, e⟩
theorem bm_mem {zs : List Int} (h : ∀ j, j < zs.length → 0 ≤ gi zs j ∧ gi zs j < 5) {z : Int} (hz : 0 ≤ z) : (bmTo zs zs.length).testBit z.toNat = decide (z ∈ zs) := by
  rw [Bool.eq_iff_iff, bmTo_bit, decide_eq_true_eq]
  constructor
  · rintro ⟨i, hi, e⟩
    have := h i hi
    have e2 : gi zs i = z := by omega
    rw [← e2]; exact gi_mem hi
  · intro hm
    obtain ⟨i, hi, e⟩ := List.getElem_of_mem hm
    exact ⟨i, hi, by rw [gi_eq hi, e]⟩
theorem set_bd {f : M} {zs : List Int} (hv : Valid f) (hs : isSetB f.p zs = true) : ∀ j, j < zs.length → 0 ≤ gi zs j ∧ gi zs j < 5 := by
  intro j hj
  have := isSetB_iff.1 hs j hj
  unfold okAt at this
  rw [Bool.and_eq_true] at this
  have := inR_true.1 this.1
  have := hv.p5
  omega

def preR (f : M) (zs : List Int) : List Int := if codeSet f zs = 0 then sel (preIs f zs) f.p.toNat else []

theorem preR_bad {f : M} {zs : List Int} (h : codeSet f zs ≠ 0) : preR f zs = [] := by simp [preR, h]
theorem preR_good {f : M} {zs : List Int} (h : codeSet f zs = 0) : preR f zs = sel (preIs f zs) f.p.toNat := by simp [preR, h]
theorem preR_len (f : M) (zs : List Int) : (preR f zs).length < 1073741824 := by
  by_cases h : codeSet f zs = 0
  · rw [preR_good h]; have := ((isMap_iff f).1 (codeSet_zero.1 h).1).p5; have := sel_length (preIs f zs) f.p.toNat; omega
  · rw [preR_bad h]; simp

end Go.Proofs.Ytkbfocoaobiijaa
