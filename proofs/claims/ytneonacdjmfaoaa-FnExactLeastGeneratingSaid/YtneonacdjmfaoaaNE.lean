/- Contracts of the predicates on the elements of a monoid and of elementsThat; the monoid stands as the theorems say. Contracts of elementsThat and of the program's lists of elements that are such; the lists are as each theorem states. Contracts of CentreOf, IdempotentsOf, SideZeros, ZeroOf, IsCommutative and IsRegularIn of the program; the lists are as each theorem states. Contracts of IsCommutative and IsRegularIn of the program; the lists are as each theorem states. -/
import Derived.Test.YtneonacdjmfaoaaND
import Derived.Test.YtneonacdjmfaoaaKA
import Derived.Test.YtneonacdjmfaoaaC3
namespace Go.Proofs.Ytneonacdjmfaoaa
open Go.RowKit
set_option maxRecDepth 100000
set_option linter.unusedSimpArgs false

/-- the place of a product of two elements -/
def pc (E : List M) (i k : Nat) : Nat := ix E (mul (gm E i) (gm E k))
theorem pc_lt {n : Int} {E : List M} (hm : Mnd n E) {i k : Nat} (hi : i < E.length) (hk : k < E.length) : pc E i k < E.length := hm.ix_mul hi hk
theorem gm_pc {n : Int} {E : List M} (hm : Mnd n E) {i k : Nat} (hi : i < E.length) (hk : k < E.length) : gm E (pc E i k) = mul (gm E i) (gm E k) := gm_ix (hm.mulE _ (gm_mem hi) _ (gm_mem hk))
theorem prod_any {n : Int} {B g : Nat} {E : List M} {us : List (List Int)} (i k : Nat) (w : World) (h : MonAt n B g E us w) (hE : E.length ≤ 300) (hm : Mnd n E) (hi : i < E.length) (hk : k < E.length) :
    Calls Try.prog 90 #[.pointer (some ⟨g, 0, none⟩), I i, I k] w fun e w' => e = .returned (I (pc E i k)) ∧ Below w.heap.size w w' := product_any i k w h hE hm hi hk

theorem beqc (x y : Nat) : ((x : Int) == (y : Int)) = (x == y) := by rw [Bool.eq_iff_iff, beq_iff_eq, beq_iff_eq]; omega

set_option maxRecDepth 100000
set_option linter.unusedSimpArgs false

/-- the elements whose places are such -/
def thatE (p : Nat → Bool) (E : List M) : List M := ((List.range E.length).filter p).map (gm E)
def thatR (p : List M → Nat → Bool) (ms : List M) : List M := thatE (p (elR ms [])) (elR ms [])
theorem range_gm' (E : List M) : (List.range E.length).map (gm E) = E := by
  refine List.ext_getElem (by simp) fun i h1 h2 => ?_
  simp [gm_eq h2]
theorem thatE_filter (P : M → Bool) (E : List M) : thatE (fun i => P (gm E i)) E = E.filter P := by
  unfold thatE
  conv => rhs; rw [← range_gm' E]
  rw [List.filter_map]
  rfl
theorem thatE_congr {p q : Nat → Bool} {E : List M} (h : ∀ i, i < E.length → p i = q i) : thatE p E = thatE q E := by
  unfold thatE
  congr 1
  exact List.filter_congr fun i hi => h i (List.mem_range.1 hi)

set_option maxRecDepth 100000
set_option linter.unusedSimpArgs false

set_option maxRecDepth 100000
set_option linter.unusedSimpArgs false

end Go.Proofs.Ytneonacdjmfaoaa
