/- Contracts of products of two maps; no conditions beyond those that each theorem states. -/
import Derived.Test.YtneonacdjmfaoaaC3
namespace Go.Proofs.Ytneonacdjmfaoaa
open Go.RowKit
set_option maxRecDepth 100000

/-- the code of two maps with as many points -/
def codeLike (f g : M) : Int := if isMap f && isMap g then (if f.p = g.p then 0 else 2) else 1

theorem codeLike_bad1 {f g : M} (h : isMap f = false) : codeLike f g = 1 := by simp [codeLike, h]

theorem codeLike_bad2 {f g : M} (h : isMap g = false) : codeLike f g = 1 := by simp [codeLike, h]

theorem codeLike_ne {f g : M} (h1 : isMap f = true) (h2 : isMap g = true) (h : ¬ f.p = g.p) : codeLike f g = 2 := by simp [codeLike, h1, h2, h]

theorem codeLike_eq {f g : M} (h1 : isMap f = true) (h2 : isMap g = true) (h : f.p = g.p) : codeLike f g = 0 := by simp [codeLike, h1, h2, h]

def like (f g : M) : Bool := isMap f && isMap g && decide (f.p = g.p)

theorem like_iff {f g : M} : like f g = true ↔ Valid f ∧ Valid g ∧ f.p = g.p := by simp [like, isMap_iff, and_assoc]

theorem codeLike_like (f g : M) : like f g = true ↔ codeLike f g = 0 := by
  unfold like codeLike
  cases isMap f <;> cases isMap g <;> simp

def mulR (f g : M) : M := if like f g then mul f g else M0

end Go.Proofs.Ytneonacdjmfaoaa
