/- Contracts of the images of sets; no conditions beyond those that each theorem states. -/
import Derived.Test.YtkbfocoaobiijaaD6
import Derived.Test.YtkbfocoaobiijaaD7
import Derived.Test.YtkbfocoaobiijaaReg
namespace Go.Proofs.Ytkbfocoaobiijaa
open Go.RowKit
set_option maxRecDepth 100000

theorem set_up {p : Int} {zs : List Int} (hs : isSetB p zs = true) : ∀ j, j < zs.length → (j : Int) ≤ gi zs j ∧ gi zs j < p := by
  intro j
  induction j with
  | zero =>
    intro hj
    have := isSetB_iff.1 hs 0 hj
    unfold okAt at this
    rw [Bool.and_eq_true] at this
    have := inR_true.1 this.1
    omega
  | succ j ih =>
    intro hj
    have h := isSetB_iff.1 hs (j + 1) hj
    unfold okAt at h
    rw [Bool.and_eq_true, Bool.or_eq_true] at h
    have h1 := inR_true.1 h.1
    have h2 := ih (by omega)
    have h3 : gi zs j < gi zs (j + 1) := by
      rcases h.2 with h | h
      · simp at h
      · simpa using h
    omega
theorem set_len {f : M} {zs : List Int} (hv : Valid f) (hs : isSetB f.p zs = true) : zs.length ≤ 5 := by
  have h5 := hv.p5
  rcases Nat.lt_or_ge 5 zs.length with h | h
  · have := set_up hs 5 h; omega
  · exact h
theorem img_pts {f : M} {zs : List Int} (hv : Valid f) (hs : isSetB f.p zs = true) : pts (mv f (bmTo zs zs.length) f.p.toNat) = sel (imQ f zs) 5 := by
  have h5 := hv.p5
  have hlt := mv_lt hv (bmTo zs zs.length) f.p.toNat (by have := hv.p1; omega)
  rw [pts, sel_far (n := 5) (by omega) fun k h1 _ => bit_far hlt h1]
  refine sel_ext fun k hk => ?_
  rw [Bool.eq_iff_iff, bq_nat, mv_bit, imQ, decide_eq_true_eq, led, List.mem_map]
  constructor
  · rintro ⟨i, hi, hb, e⟩
    rw [bmTo_bit] at hb
    obtain ⟨j, hj, ej⟩ := hb
    have hu := set_up hs j hj
    have b1 := hv.lo i (by omega) (by omega)
    exact ⟨gi zs j, gi_mem hj, by rw [ej]; omega⟩
  · rintro ⟨z, hz, e⟩
    obtain ⟨j, hj, ej⟩ := List.getElem_of_mem hz
    have hu := set_up hs j hj
    rw [gi_eq hj, ej] at hu
    refine ⟨z.toNat, by omega, ?_, by rw [e]; simp⟩
    rw [bmTo_bit]
    exact ⟨j, hj, by rw [gi_eq hj, ej]⟩

def imgSR (f : M) (zs : List Int) : List Int := if codeSet f zs = 0 then sel (imQ f zs) 5 else []

theorem imgSR_bad {f : M} {zs : List Int} (h : codeSet f zs ≠ 0) : imgSR f zs = [] := by simp [imgSR, h]
theorem imgSR_good {f : M} {zs : List Int} (h : codeSet f zs = 0) : imgSR f zs = sel (imQ f zs) 5 := by simp [imgSR, h]
theorem imgSR_len (f : M) (zs : List Int) : (imgSR f zs).length < 1073741824 := by
  by_cases h : codeSet f zs = 0
  · rw [imgSR_good h]; have := sel_length (imQ f zs) 5; omega
  · rw [imgSR_bad h]; simp

theorem val_same {x0 x1 x2 x3 x5 x6 x7 x8 x9 x10 x11 x12 x13 x14 x15 x16 v v' : Value} {t : Nat} (h17 : t ≠ 17) (h4 : t ≠ 4) :
    (#[x0, x1, x2, x3, v', x5, x6, x7, x8, x9, x10, x11, x12, x13, x14, x15, x16, v'] : Array Value).getD t undef = (#[x0, x1, x2, x3, v, x5, x6, x7, x8, x9, x10, x11, x12, x13, x14, x15, x16, v] : Array Value).getD t undef := by
  have e : (#[x0, x1, x2, x3, v', x5, x6, x7, x8, x9, x10, x11, x12, x13, x14, x15, x16, v'] : Array Value) = ((#[x0, x1, x2, x3, v, x5, x6, x7, x8, x9, x10, x11, x12, x13, x14, x15, x16, v] : Array Value).setIfInBounds 17 v').setIfInBounds 4 v' := rfl
  rw [e]
  simp only [Array.getD_eq_getD_getElem?]
  rw [Array.getElem?_setIfInBounds_ne (Ne.symm h4), Array.getElem?_setIfInBounds_ne (Ne.symm h17)]

end Go.Proofs.Ytkbfocoaobiijaa
