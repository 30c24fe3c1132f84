/- Contracts of the order of maps; the maps are valid where the theorems say so. -/
import Derived.Test.YtkbfocoaobiijaaC10
namespace Go.Proofs.Ytkbfocoaobiijaa
open Go.RowKit
set_option maxRecDepth 100000

theorem gi_imgs (f : M) {k n : Nat} (h : k < n) : gi (imgs f n) k = f.at k := by simp [gi, imgs, List.getD, h]
theorem cmpM_p {f g : M} (h : f.p ≠ g.p) : cmpM f g = cmpI f.p g.p := by rw [cmpM, or2, if_neg (cmpI_ne.2 h)]
theorem cmpM_e {f g : M} (h : f.p = g.p) : cmpM f g = cmpL (imgs f 5) (imgs g 5) := by rw [cmpM, or2, if_pos (cmpI_eq h)]
theorem cmpM_at {f g : M} {k : Nat} (h : f.p = g.p) (hk : k < 5) (he : ∀ j, j < k → f.at j = g.at j) (hn : f.at k ≠ g.at k) : cmpM f g = cmpI (f.at k) (g.at k) := by
  rw [cmpM_e h, cmpL_at (k := k) (by rw [imgs_length]; exact hk) (by rw [imgs_length]; exact hk) (fun j hj => by rw [gi_imgs f (by omega), gi_imgs g (by omega)]; exact he j hj) (by rw [gi_imgs f hk, gi_imgs g hk]; exact hn), gi_imgs f hk, gi_imgs g hk]
theorem cmpM_same {f g : M} (h : f.p = g.p) (he : ∀ j, j < 5 → f.at j = g.at j) : cmpM f g = 0 := by
  rw [cmpM_e h, cmpL_pre fun j h1 _ => by rw [imgs_length] at h1; rw [gi_imgs f h1, gi_imgs g h1]; exact he j h1, imgs_length, imgs_length, cmpI_eq rfl]
theorem cmpM_cases (f g : M) : (f = g ∧ cmpM f g = 0) ∨ (f.p ≠ g.p ∧ cmpM f g = cmpI f.p g.p) ∨ ∃ k, k < 5 ∧ f.p = g.p ∧ (∀ j, j < k → f.at j = g.at j) ∧ f.at k ≠ g.at k ∧ cmpM f g = cmpI (f.at k) (g.at k) := by
  by_cases hp : f.p = g.p
  · by_cases he : ∀ j, j < 5 → f.at j = g.at j
    · exact .inl ⟨M.ext5 hp he, cmpM_same hp he⟩
    · have : ∃ k, k < 5 ∧ f.at k ≠ g.at k := by
        refine Classical.byContradiction fun hc => he fun j hj => Classical.byContradiction fun hne => hc ⟨j, hj, hne⟩
      obtain ⟨k, ⟨hk, hne⟩, hmin⟩ := exists_least this
      have hj : ∀ j, j < k → f.at j = g.at j := fun j hj => Classical.byContradiction fun hc => by have := hmin j ⟨by omega, hc⟩; omega
      exact .inr (.inr ⟨k, hk, hp, hj, hne, cmpM_at hp hk hj hne⟩)
  · exact .inr (.inl ⟨hp, cmpM_p hp⟩)
theorem cmpM_swap (f g : M) : cmpM g f = - cmpM f g := by
  rcases cmpM_cases f g with ⟨rfl, h⟩ | ⟨hp, h⟩ | ⟨k, hk, hp, he, hn, h⟩
  · rw [h]; rfl
  · rw [h, cmpM_p (Ne.symm hp), cmpI_swap]
  · rw [h, cmpM_at hp.symm hk (fun j hj => (he j hj).symm) (Ne.symm hn), cmpI_swap]
theorem cmpM_bd (f g : M) : -1 ≤ cmpM f g ∧ cmpM f g ≤ 1 := by
  rcases cmpM_cases f g with ⟨rfl, h⟩ | ⟨hp, h⟩ | ⟨k, hk, hp, he, hn, h⟩
  · rw [h]; omega
  · rw [h]; exact cmpI_bd _ _
  · rw [h]; exact cmpI_bd _ _
theorem cmpM_zero {f g : M} : cmpM f g = 0 ↔ f = g := by
  constructor
  · intro h0
    rcases cmpM_cases f g with ⟨rfl, h⟩ | ⟨hp, h⟩ | ⟨k, hk, hp, he, hn, h⟩
    · rfl
    · rw [h] at h0; exact absurd h0 (cmpI_ne.2 hp)
    · rw [h] at h0; exact absurd h0 (cmpI_ne.2 hn)
  · rintro rfl; exact cmpM_same rfl fun _ _ => rfl

/-- does a map come before another one -/
def lessM (f g : M) : Bool := decide (cmpM f g = -1)
theorem lessM_ne {f g : M} (h : f.p ≠ g.p) : lessM f g = decide (f.p < g.p) := by
  rw [lessM, cmpM_p h, Bool.eq_iff_iff]; simp [cmpI_neg]
theorem lessM_at {f g : M} {k : Nat} (h : f.p = g.p) (hk : k < 5) (he : ∀ j, j < k → f.at j = g.at j) (hn : f.at k ≠ g.at k) : lessM f g = decide (f.at k < g.at k) := by
  rw [lessM, cmpM_at h hk he hn, Bool.eq_iff_iff]; simp [cmpI_neg]
theorem lessM_same {f g : M} (hf : Valid f) (hg : Valid g) (h : f.p = g.p) {k : Nat} (hk : ¬ (k : Int) < f.p) (he : ∀ j, j < k → f.at j = g.at j) : lessM f g = false := by
  rw [lessM, cmpM_same h]
  · rfl
  · intro j hj
    by_cases hj' : j < k
    · exact he j hj'
    · rw [hf.out j hj (by omega), hg.out j hj (by omega)]

def cmpC (f g : M) : Int := cInv (isMap f && isMap g)
def cmpR (f g : M) : Int := if isMap f && isMap g then cmpM f g else 0
theorem cmpR_bad1 {f g : M} (h : isMap f = false) : cmpR f g = 0 ∧ cmpC f g = 1 := by simp [cmpR, cmpC, h, cInv]
theorem cmpR_bad2 {f g : M} (h : isMap g = false) : cmpR f g = 0 ∧ cmpC f g = 1 := by simp [cmpR, cmpC, h, cInv]
theorem cmpR_good {f g : M} (h : isMap f = true) (h2 : isMap g = true) : cmpR f g = cmpM f g ∧ cmpC f g = 0 := by simp [cmpR, cmpC, h, h2, cInv]

end Go.Proofs.Ytkbfocoaobiijaa
