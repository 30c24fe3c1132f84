/- Contract of the program's IsRegular; the lists are as the theorem states. -/
import Derived.Test.YtneonacdjmfaoaaI2
namespace Go.Proofs.Ytneonacdjmfaoaa
open Go.RowKit
set_option maxRecDepth 100000
set_option linter.unusedSimpArgs false
set_option linter.unusedVariables false

theorem sameK_comm (E : List M) (kind : Int) (i k : Nat) : sameK E kind i k = sameK E kind k i := by
  rw [Bool.eq_iff_iff]; exact ⟨sameK_symm kind, sameK_symm kind⟩

end Go.Proofs.Ytneonacdjmfaoaa
