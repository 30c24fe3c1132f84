/- Contracts of IsUnder on both sides; the lists are as each theorem states. -/
import Derived.Test.YtneonacdjmfaoaaH4
import Derived.Test.YtneonacdjmfaoaaG5
namespace Go.Proofs.Ytneonacdjmfaoaa
open Go.RowKit
set_option maxRecDepth 100000
set_option linter.unusedSimpArgs false
set_option linter.unusedVariables false

theorem monC_el {ms xs : List M} (h : monC ms xs = 0) : ∃ E ps, El ms xs E ps ∧ ∀ f ∈ xs, f ∈ E := by
  have hc : elC ms xs = 0 := by
    by_cases hc : elC ms xs = 0
    · exact hc
    · rw [elC_mon hc] at h; exact h
  obtain ⟨E, ps, hE⟩ := elC_el hc
  refine ⟨E, ps, hE, fun f hf => ?_⟩
  by_cases hin : f ∈ E
  · exact hin
  · have := monC_out hE.code hE.clo hf (by rw [← hE.eq]; exact hin)
    rw [this] at h; cases h
/-- two maps in a block of their own are a list -/
theorem rd_two {w : World} {f g : M} {b : Nat} (h : Blk w b 39 #[I f.p, I f.t0, I f.t1, I f.t2, I f.t3, I f.t4, I g.p, I g.t0, I g.t1, I g.t2, I g.t3, I g.t4]) : RdM w w.heap.size (some ⟨b, 0, none⟩) [f, g] := by
  refine ⟨by simp [mcs], fun _ => ⟨b, 0, rfl, h.lt, fun j u hj => ?_⟩⟩
  rw [Nat.zero_add, h.cell, ← hj, ← Array.getElem?_toList]
  simp only [mcs, List.flatMap_cons, List.flatMap_nil, List.append_nil]
  rfl
/-- f is a product with g in the middle -/
def iuR (ms : List M) (f g : M) : Bool := decide (monC ms [f, g] = 0) && decide (JJ (elR ms [f, g]) g f)

end Go.Proofs.Ytneonacdjmfaoaa
