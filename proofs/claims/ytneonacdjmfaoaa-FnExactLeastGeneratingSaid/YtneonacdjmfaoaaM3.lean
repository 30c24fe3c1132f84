/- Plain laws of the least generating parts; no program in sight. -/
import Derived.Test.YtneonacdjmfaoaaM2
import Derived.Test.YtneonacdjmfaoaaND
import Derived.Test.YtneonacdjmfaoaaIJ
namespace Go.Proofs.Ytneonacdjmfaoaa
open Go.RowKit
set_option maxRecDepth 100000
set_option linter.unusedSimpArgs false
set_option linter.unusedVariables false

/-- the maps of a part -/
def sel (ms : List M) (S : List Int) : List M := S.map fun z => gm ms z.toNat
/-- a part generates as many elements as all maps do -/
def lgG (ms : List M) (p : Int) (N : Nat) (S : List Int) : Bool := match clo (sel ms S) p with | none => false | some ps => decide (ps.length = N)
theorem sel_length (ms : List M) (S : List Int) : (sel ms S).length = S.length := by simp [sel]
theorem sel_take (ms : List M) (S : List Int) {k : Nat} (h : k < S.length) : sel ms (S.take (k + 1)) = sel ms (S.take k) ++ [gm ms (gi S k).toNat] := by
  unfold sel
  rw [List.take_add_one, List.map_append, List.getElem?_eq_getElem h]
  simp [gi, List.getD, h]
theorem sel_sub {ms : List M} {S : List Int} (h : ∀ z ∈ S, 0 ≤ z ∧ z < ms.length) : ∀ g ∈ sel ms S, g ∈ ms := fun g hg => by
  obtain ⟨z, hz, rfl⟩ := List.mem_map.1 hg
  have := h z hz
  exact gm_mem (by omega)
theorem sel_full (ms : List M) : sel ms (fullL ms.length) = ms := by
  unfold sel fullL
  rw [List.map_map]
  conv => rhs; rw [← range_gm ms]
  rfl
theorem lgG_full {ms E : List M} {ps : Met} {xs : List M} (hE : El ms xs E ps) : lgG ms (gm ms 0).p E.length (fullL ms.length) = true := by
  unfold lgG
  rw [sel_full, hE.clo, hE.eq]
  simp only
  have := sortM_length (clo_good hE.clo).1.nd
  rw [List.length_map] at this
  unfold eltM
  rw [this]
  exact decide_eq_true rfl
theorem bitsL_ok : ∀ n : Fin 7, ∀ u : Fin 64, u.val < 2 ^ n.val → ((bitsL u.val).all fun z => decide (0 ≤ z) && decide (z < n.val)) = true := by decide +kernel
theorem bitsL_lt {n u : Nat} (hn : n < 7) (hu : u < 2 ^ n) : ∀ z ∈ bitsL u, 0 ≤ z ∧ z < n := fun z hz => by
  have h64 : 2 ^ n ≤ 64 := by
    have : 2 ^ n ≤ 2 ^ 6 := Nat.pow_le_pow_right (by decide) (by omega)
    simpa using this
  have h := List.all_eq_true.1 (bitsL_ok ⟨n, hn⟩ ⟨u, by omega⟩ hu) z hz
  simp only [Bool.and_eq_true, decide_eq_true_eq] at h
  exact h
theorem parts_ok : ∀ n : Fin 7, ∀ c : Fin 8, ((parts n.val 0 c.val).all fun S => S.all fun z => decide (0 ≤ z) && decide (z < n.val)) = true := by decide +kernel
theorem parts_lt {n c j : Nat} (hn : n < 7) (hc : c < 8) (hj : j < (parts n 0 c).length) : ∀ z ∈ (parts n 0 c).getD j [], 0 ≤ z ∧ z < n := fun z hz => by
  have h := List.all_eq_true.1 (parts_ok ⟨n, hn⟩ ⟨c, hc⟩) ((parts n 0 c)[j]) (List.getElem_mem hj)
  rw [List.getD_eq_getElem?_getD, List.getElem?_eq_getElem hj] at hz
  have h := List.all_eq_true.1 h z hz
  simp only [Bool.and_eq_true, decide_eq_true_eq] at h
  exact h
/-- the best part among the first ones -/
def bestTo (G : List Int → Bool) (n u : Nat) : List Int := ((List.range u).map bitsL).foldl (bestStep G) (fullL n)
theorem bestTo_step (G : List Int → Bool) (n u : Nat) : bestTo G n (u + 1) = bestStep G (bestTo G n u) (bitsL u) := by
  unfold bestTo
  rw [List.range_succ, List.map_append, List.foldl_append]
  rfl
theorem bestTo_all (G : List Int → Bool) (n : Nat) : bestTo G n (2 ^ n) = leastI G n := rfl
theorem bitsL_len (u : Nat) : (bitsL u).length ≤ 6 := bitsTo_len u 6
theorem bestTo_len (G : List Int → Bool) (n : Nat) : ∀ u, (bestTo G n u).length ≤ n + 6
  | 0 => by show (fullL n).length ≤ n + 6; unfold fullL; rw [List.length_map, List.length_range]; omega
  | u + 1 => by
    rw [bestTo_step]
    unfold bestStep
    have := bitsL_len u
    split
    · omega
    · exact bestTo_len G n u
theorem best_skip {G : List Int → Bool} {b S : List Int} (h : lessS S b = false) : bestStep G b S = b := by unfold bestStep; rw [h]; rfl
theorem best_no {G : List Int → Bool} {b S : List Int} (h : G S = false) : bestStep G b S = b := by unfold bestStep; rw [h, Bool.and_false]; rfl
theorem best_yes {G : List Int → Bool} {b S : List Int} (h : lessS S b = true) (hG : G S = true) : bestStep G b S = S := by unfold bestStep; rw [h, hG]; rfl
theorem less_gt {S b : List Int} (h : b.length < S.length) : lessS S b = false := by
  unfold lessS
  rw [decide_eq_false (by omega), decide_eq_false (by omega)]; rfl
theorem less_lt {S b : List Int} (h : S.length < b.length) : lessS S b = true := by
  unfold lessS
  rw [decide_eq_true h]; rfl
theorem less_eq {S b : List Int} (h : S.length = b.length) : lessS S b = decide (cmpLs S b < 0) := by
  unfold lessS
  rw [decide_eq_false (by omega), decide_eq_true h, Bool.false_or, Bool.true_and, Bool.eq_iff_iff, decide_eq_true_eq, cmpLs_neg]
def partsBelow (n c : Nat) : List (List Int) := (List.range c).flatMap fun c => parts n 0 c
theorem below_step (n c : Nat) : partsBelow n (c + 1) = partsBelow n c ++ parts n 0 c := by
  unfold partsBelow
  rw [List.range_succ, List.flatMap_append]
  simp
theorem below_none {G : List Int → Bool} {n c : Nat} (h1 : ∀ S ∈ partsBelow n c, G S = false) (h2 : ∀ j, j < (parts n 0 c).length → G ((parts n 0 c).getD j []) = false) : ∀ S ∈ partsBelow n (c + 1), G S = false := fun S hS => by
  rw [below_step] at hS
  rcases List.mem_append.1 hS with h | h
  · exact h1 S h
  · obtain ⟨j, hj, rfl⟩ := List.getElem_of_mem h
    have := h2 j hj
    rw [List.getD_eq_getElem?_getD, List.getElem?_eq_getElem hj] at this
    exact this
theorem find_at {α : Type} {G : α → Bool} : ∀ {L : List α} {i : Nat} (hi : i < L.length), (∀ j (h : j < i), G (L[j]'(by omega)) = false) → G L[i] = true → L.find? G = some L[i]
  | a :: L, 0, _, _, h => by
    rw [List.find?_cons]
    simp only [List.getElem_cons_zero] at h ⊢
    rw [h]
  | a :: L, i + 1, hi, h1, h => by
    rw [List.find?_cons]
    have h0 := h1 0 (by omega)
    simp only [List.getElem_cons_zero] at h0
    rw [h0]
    simp only [List.getElem_cons_succ] at h ⊢
    exact find_at (by simpa using hi) (fun j hj => by have := h1 (j + 1) (by omega); simpa using this) h
theorem least_found {G : List Int → Bool} {n c i : Nat} (hc : c < n) (h1 : ∀ S ∈ partsBelow n c, G S = false) (hi : i < (parts n 0 c).length) (h2 : ∀ j, j < i → G ((parts n 0 c).getD j []) = false) (hG : G ((parts n 0 c).getD i []) = true) : leastS G n = (parts n 0 c).getD i [] := by
  have hsplit : partsAll n = partsBelow n c ++ (parts n 0 c ++ (List.range' (c + 1) (n - c - 1)).flatMap fun c => parts n 0 c) := by
    unfold partsAll partsBelow
    have : List.range n = List.range c ++ c :: List.range' (c + 1) (n - c - 1) := by
      rw [List.range_eq_range', List.range_eq_range', ← List.range'_succ, show n - c - 1 + 1 = n - c by omega]
      have h := List.range'_append_1 (s := 0) (m := c) (n := n - c)
      rw [Nat.zero_add, show c + (n - c) = n by omega] at h
      exact h.symm
    rw [this, List.flatMap_append, List.flatMap_cons]
  unfold leastS
  rw [hsplit, List.find?_append, List.find?_eq_none.2 (fun S hS => by rw [h1 S hS]; decide), Option.none_or, List.find?_append]
  have hget : ∀ j (h : j < (parts n 0 c).length), (parts n 0 c).getD j [] = (parts n 0 c)[j] := fun j h => by rw [List.getD_eq_getElem?_getD, List.getElem?_eq_getElem h]; rfl
  rw [hget i hi] at hG ⊢
  rw [find_at hi (fun j hj => by have := h2 j hj; rw [hget j (by omega)] at this; exact this) hG]
  rfl
theorem least_none {G : List Int → Bool} {n : Nat} (h1 : ∀ S ∈ partsBelow n n, G S = false) : leastS G n = fullL n := by
  unfold leastS
  have : (partsAll n).find? G = none := List.find?_eq_none.2 fun S hS => by
    rw [h1 S hS]; decide
  rw [this]
  rfl
/-- the code and the answer -/
def lgR (ms : List M) : List Int := if monC ms [] = 0 then leastI (lgG ms (gm ms 0).p (elR ms []).length) ms.length else []
theorem lgR_bad {ms : List M} (h : monC ms [] ≠ 0) : lgR ms = [] := if_neg h
theorem lgR_len (ms : List M) : (lgR ms).length ≤ 12 := by
  unfold lgR
  split
  · rename_i h
    rw [← bestTo_all]
    have := bestTo_len (lgG ms (gm ms 0).p (elR ms []).length) ms.length (2 ^ ms.length)
    obtain ⟨E, ps, hE, _⟩ := monC_el h
    have := hE.n6
    omega
  · simp
end Go.Proofs.Ytneonacdjmfaoaa
