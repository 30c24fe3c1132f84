/- Contracts of maps made of lists and of texts; no conditions beyond those that each theorem states. -/
import Derived.Test.YtneonacdjmfaoaaC1
import Derived.Test.YtneonacdjmfaoaaSl
import Derived.WalkSpells
namespace Go.Proofs.Ytneonacdjmfaoaa
open Go.RowKit
set_option maxRecDepth 100000

/-- the map of a list of images -/
def made (zs : List Int) : M := M.mk' zs.length (gi zs)
theorem made_p (zs : List Int) : (made zs).p = zs.length := rfl
theorem made_at {zs : List Int} {k : Nat} (hk : k < 5) : (made zs).at k = gi zs k := at_mk' _ _ hk
theorem gi_out {zs : List Int} {k : Nat} (h : zs.length ≤ k) : gi zs k = 0 := by simp [gi, List.getD, List.getElem?_eq_none h]
theorem made_fin {zs : List Int} : part (zs.length : Int) (gi zs) (fun _ => 0) zs.length = made zs := by
  refine mk'_congr fun j _ => ?_
  by_cases h : j < zs.length
  · rw [if_pos h]
  · rw [if_neg h, gi_out (by omega)]

/-- are all numbers of a list images of its length -/
def okList (zs : List Int) : Bool := zs.all fun z => inR z 0 (zs.length - 1)
theorem okList_iff (zs : List Int) : okList zs = true ↔ ∀ k, k < zs.length → inR (gi zs k) 0 (zs.length - 1) = true := by
  unfold okList
  rw [List.all_eq_true]
  constructor
  · intro h k hk; exact h _ (by rw [gi_eq hk]; exact List.getElem_mem hk)
  · intro h z hz
    obtain ⟨k, hk, e⟩ := List.getElem_of_mem hz
    have := h k hk
    rwa [gi_eq hk, e] at this
theorem isMap_made {zs : List Int} (h1 : 1 ≤ zs.length) (h5 : zs.length ≤ 5) : isMap (made zs) = okList zs := by
  rw [Bool.eq_iff_iff, isMap_iff, okList_iff]
  constructor
  · intro h k hk
    rw [inR_true]
    have a := h.lo k (by omega) (by rw [made_p]; omega)
    have b := h.hi k (by omega) (by rw [made_p]; omega)
    rw [made_at (by omega)] at a b
    rw [made_p] at b
    omega
  · intro h
    refine ⟨by rw [made_p]; omega, by rw [made_p]; omega, ?_, ?_, ?_⟩
    · intro k hk hp; rw [made_p] at hp; rw [made_at hk]; have := inR_true.1 (h k (by omega)); omega
    · intro k hk hp; rw [made_p] at hp ⊢; rw [made_at hk]; have := inR_true.1 (h k (by omega)); omega
    · intro k hk hp; rw [made_p] at hp; rw [made_at hk, gi_out (by omega)]

def mapOfOk (zs : List Int) : Bool := inR zs.length 1 5 && okList zs
def mapOfR (zs : List Int) : M := if mapOfOk zs then made zs else M0
def mapOfC (zs : List Int) : Int := if mapOfOk zs then 0 else 2

end Go.Proofs.Ytneonacdjmfaoaa
