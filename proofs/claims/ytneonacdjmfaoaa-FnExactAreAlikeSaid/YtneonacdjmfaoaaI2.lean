/- Contracts of IsRegular on both sides; the lists are as each theorem states. -/
import Derived.Test.YtneonacdjmfaoaaI1
namespace Go.Proofs.Ytneonacdjmfaoaa
open Go.RowKit
set_option maxRecDepth 100000
set_option linter.unusedSimpArgs false
set_option linter.unusedVariables false

def irgB (E : List M) (x i : Nat) : Bool := sameK E 3 i x && isIdem (gm E i)
/-- the class of f holds an idempotent -/
def irgR (ms : List M) (f : M) : Bool := decide (monC ms [f] = 0) && (List.range (elR ms [f]).length).any (irgB (elR ms [f]) (ix (elR ms [f]) f))
theorem irgB_eq (E : List M) (x i : Nat) : irgB E x i = (decide (Rel E true true (gm E x) (gm E i)) && isIdem (gm E i) && decide (Rel E true true (gm E i) (gm E x))) := by
  unfold irgB
  rw [← bothB_J]
  unfold bothB relB
  cases decide (Rel E true true (gm E i) (gm E x)) <;> cases decide (Rel E true true (gm E x) (gm E i)) <;> cases isIdem (gm E i) <;> rfl
theorem any_at {N q : Nat} {p : Nat → Bool} (hq : q < N) (h : p q = true) : (List.range N).any p = true := any_iff.2 ⟨q, hq, h⟩
theorem any_no {N : Nat} {p : Nat → Bool} (h : ∀ j, j < N → p j = false) : (List.range N).any p = false := by
  rw [← Bool.not_eq_true, any_iff]
  rintro ⟨j, hj, e⟩
  rw [h j hj] at e; cases e

end Go.Proofs.Ytneonacdjmfaoaa
