/- Contracts of the points that are kept, for each test; the maps are valid where the theorems say so. -/
import Derived.Test.YtkbfocoaobiijaaGreatD1
import Derived.Deep.QuietTactic
import Derived.BigQuiet
namespace Go.Proofs.YtkbfocoaobiijaaGreat
open Go.RowKit
set_option maxRecDepth 100000

/-- the points below n that are such -/
def sel (q : Int → Bool) (n : Nat) : List Int := (ups n).filter q

theorem sel_succ (q : Int → Bool) (n : Nat) : sel q (n + 1) = sel q n ++ (if q n then [(n : Int)] else []) := by
  rw [sel, ups_succ, List.filter_append, sel]
  congr 1
  cases h : q n <;> simp [h]
theorem keep_sel (q : Int → Bool) (n : Nat) : keepF (fun z => !q z) (ups n) = sel q n := by simp [keepF, sel]
theorem sel_length (q : Int → Bool) (n : Nat) : (sel q n).length ≤ n := by
  have := List.length_filter_le q (ups n)
  rw [ups_length] at this
  exact this
theorem ups_mem {n : Nat} {z : Int} (h : z ∈ ups n) : ∃ k : Nat, k < n ∧ z = k := by
  simp [ups] at h
  obtain ⟨k, hk, rfl⟩ := h
  exact ⟨k, hk, rfl⟩
theorem six_at {w : World} {g : Nat} {f : M} (hs : Six w g f) : ∀ j, j < 5 → w.cell? ⟨g, 1 + j, none⟩ = some (I (f.at j)) :=
  five (P := fun j => w.cell? ⟨g, 1 + j, none⟩ = some (I (f.at j))) hs.2.1 hs.2.2.1 hs.2.2.2.1 hs.2.2.2.2.1 hs.2.2.2.2.2

def isFixed (f : M) (z : Int) : Bool := decide (f.at z.toNat = z)

def fixR (f : M) : List Int := if isMap f then sel (isFixed f) f.p.toNat else []

theorem fixR_bad {f : M} (h : isMap f = false) : fixR f = [] := by simp [fixR, h]
theorem fixR_good {f : M} (h : isMap f = true) : fixR f = sel (isFixed f) f.p.toNat := by simp [fixR, h]
theorem fixR_len (f : M) : (fixR f).length < 1073741824 := by
  cases h : isMap f
  · rw [fixR_bad h]; simp
  · rw [fixR_good h]; have := ((isMap_iff f).1 h).p5; have := sel_length (isFixed f) f.p.toNat; omega

end Go.Proofs.YtkbfocoaobiijaaGreat
