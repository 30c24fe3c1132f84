/- A map of a list in its block; parts of lists. -/
import Derived.Test.YtkbfocoaobiijaaGreatNE
namespace Go.Proofs.YtkbfocoaobiijaaGreat
open Go.RowKit
set_option maxRecDepth 100000
set_option linter.unusedSimpArgs false

theorem RdM.six {w : World} {B b off : Nat} {E : List M} (h : RdM w B (some ⟨b, off, none⟩) E) {k : Nat} (hk : k < E.length) : SixAt w b (off + k * 6) (gm E k) ∧ b < B := by
  obtain ⟨b', off', e, hb, h6⟩ := RdM.at_ h hk
  injection e with e
  injection e with e1 e2 _
  subst e1 e2
  exact ⟨h6, hb⟩
theorem take_gm {E : List M} {r : Nat} (h : r < E.length) : E.take (r + 1) = E.take r ++ [gm E r] := by
  rw [List.take_add_one, gm_eq h, List.getElem?_eq_getElem h]; rfl
theorem filter_take {E : List M} {P : M → Bool} {r : Nat} (h : r < E.length) : (E.take (r + 1)).filter P = (E.take r).filter P ++ if P (gm E r) then [gm E r] else [] := by
  rw [take_gm h, List.filter_append]
  cases hp : P (gm E r) <;> simp [hp]
theorem filter_len (E : List M) (P : M → Bool) (r : Nat) : ((E.take r).filter P).length ≤ E.length :=
  Nat.le_trans (List.length_filter_le _ _) (by rw [List.length_take]; omega)
end Go.Proofs.YtkbfocoaobiijaaGreat
