/- Lists without repetitions, in plain words; no conditions. -/
import Derived.Test.YtkbfocoaobiijaaSl
namespace Go.Proofs.Ytkbfocoaobiijaa
open Go.RowKit

/-- a list without the elements that stand beside their like -/
def dd : List Int → List Int
  | [] => []
  | [x] => [x]
  | x :: y :: r => if x = y then dd (y :: r) else x :: dd (y :: r)
theorem dd_mem {z : Int} : ∀ l : List Int, z ∈ dd l ↔ z ∈ l
  | [] => Iff.rfl
  | [x] => Iff.rfl
  | x :: y :: r => by
    rw [dd]
    split
    · rename_i h
      rw [dd_mem (y :: r), h]
      simp
    · rw [List.mem_cons, dd_mem (y :: r)]; simp
theorem dd_strict : ∀ {l : List Int}, l.Pairwise (· ≤ ·) → (dd l).Pairwise (· < ·)
  | [], _ => List.Pairwise.nil
  | [x], _ => by simp [dd]
  | x :: y :: r, h => by
    have h2 := List.pairwise_cons.1 h
    rw [dd]
    split
    · exact dd_strict h2.2
    · rename_i hne
      refine List.pairwise_cons.2 ⟨fun z hz => ?_, dd_strict h2.2⟩
      rw [dd_mem] at hz
      have h3 := h2.1 y (by simp)
      have h4 : y ≤ z := by
        rcases List.mem_cons.1 hz with rfl | hz
        · exact Int.le_refl _
        · exact (List.pairwise_cons.1 h2.2).1 z hz
      omega
theorem strict_ext : ∀ {a b : List Int}, a.Pairwise (· < ·) → b.Pairwise (· < ·) → (∀ z, z ∈ a ↔ z ∈ b) → a = b
  | [], [], _, _, _ => rfl
  | [], y :: b, _, _, h => by have := (h y).2 (by simp); simp at this
  | x :: a, [], _, _, h => by have := (h x).1 (by simp); simp at this
  | x :: a, y :: b, ha, hb, h => by
    have ha2 := List.pairwise_cons.1 ha
    have hb2 := List.pairwise_cons.1 hb
    have hxy : x = y := by
      have h1 := (h x).1 (by simp)
      have h2 := (h y).2 (by simp)
      rcases List.mem_cons.1 h1 with e | h1
      · exact e
      · rcases List.mem_cons.1 h2 with e | h2
        · exact e.symm
        · have := hb2.1 x h1; have := ha2.1 y h2; omega
    subst hxy
    rw [strict_ext ha2.2 hb2.2 fun z => ?_]
    constructor
    · intro hz
      rcases List.mem_cons.1 ((h z).1 (List.mem_cons_of_mem _ hz)) with e | h1
      · have := ha2.1 z hz; omega
      · exact h1
    · intro hz
      rcases List.mem_cons.1 ((h z).2 (List.mem_cons_of_mem _ hz)) with e | h1
      · have := hb2.1 z hz; omega
      · exact h1
theorem dd_snoc (x : Int) : ∀ {l : List Int}, l ≠ [] → dd (l ++ [x]) = if l.getLast? = some x then dd l else dd l ++ [x]
  | [], h => absurd rfl h
  | [y], _ => by
    simp only [List.cons_append, List.nil_append, dd, List.getLast?_singleton, Option.some.injEq]
    split <;> simp_all
  | y :: z :: r, _ => by
    have ih := dd_snoc x (l := z :: r) (by simp)
    simp only [List.cons_append] at ih ⊢
    rw [dd, dd, ih]
    have hl : (y :: z :: r).getLast? = (z :: r).getLast? := by simp [List.getLast?_cons_cons]
    rw [hl]
    split <;> split <;> simp
end Go.Proofs.Ytkbfocoaobiijaa
