/- Contracts of powers; the maps are valid as each theorem states. -/
import Derived.Test.YtknknljkmkfmoaaC3
import Derived.Test.YtknknljkmkfmoaaPow
import Derived.Test.YtknknljkmkfmoaaS1
namespace Go.Proofs.Ytknknljkmkfmoaa
open Go.RowKit
set_option maxRecDepth 100000

theorem Blk.far6 {w : World} {g q : Nat} {t : TypeId} {cs : Array Value} (h : Blk w g t cs) (hq : g ≠ q) (m : M) : Blk (Go.Proofs.Ytknknljkmkfmoaa.st6 w q m) g t cs :=
  (((((h.far (p := ⟨q, 0, none⟩) hq _).far (p := ⟨q, 1, none⟩) hq _).far (p := ⟨q, 2, none⟩) hq _).far (p := ⟨q, 3, none⟩) hq _).far (p := ⟨q, 4, none⟩) hq _).far (p := ⟨q, 5, none⟩) hq _

def ipR (f : M) : M := if isMap f then pw f 60 else M0
theorem ipR_bad {f : M} (h : isMap f = false) : ipR f = M0 ∧ cInv (isMap f) = 1 := by rw [h]; simp [ipR, h, cInv]
theorem ipR_good {f : M} (h : isMap f = true) : ipR f = pw f 60 ∧ cInv (isMap f) = 0 := by rw [h]; simp [ipR, h, cInv]

def powR (f : M) (k : Int) : M := if isMap f && inR k 0 1000000000000 then pw f k.toNat else M0
def powC (f : M) (k : Int) : Int := if isMap f then (if inR k 0 1000000000000 then 0 else 2) else 1
theorem powR_bad {f : M} {k : Int} (h : isMap f = false) : powR f k = M0 ∧ powC f k = 1 := by simp [powR, powC, h]
theorem powR_rng {f : M} {k : Int} (h : isMap f = true) (hr : inR k 0 1000000000000 = false) : powR f k = M0 ∧ powC f k = 2 := by simp [powR, powC, h, hr]
theorem powR_good {f : M} {k : Int} (h : isMap f = true) (hr : inR k 0 1000000000000 = true) : powR f k = pw f k.toNat ∧ powC f k = 0 := by simp [powR, powC, h, hr]

end Go.Proofs.Ytknknljkmkfmoaa
