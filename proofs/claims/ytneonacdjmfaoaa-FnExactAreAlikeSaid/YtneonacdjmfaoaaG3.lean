/- Contract of the ideals of a monoid's elements; the monoid has at most 300 elements. -/
import Derived.Test.YtneonacdjmfaoaaG2
namespace Go.Proofs.Ytneonacdjmfaoaa
open Go.RowKit
set_option maxRecDepth 100000
set_option linter.unusedSimpArgs false
set_option linter.unusedVariables false

/-- the pair (a, b) lies ahead of (i, k) -/
def ahd (i k a b : Nat) : Bool := decide (a < i ∨ a = i ∧ b < k)
def pix (E : List M) (a b : Nat) : Nat := ix E (mul (gm E a) (gm E b))
def rP (E : List M) (i k a p : Nat) : Bool := (List.range E.length).any fun b => ahd i k a b && decide (pix E a b = p)
def lP (E : List M) (i k b p : Nat) : Bool := (List.range E.length).any fun a => ahd i k a b && decide (pix E a b = p)
def bP (E : List M) (i k a p : Nat) : Bool := (List.range E.length).any fun b => ahd i k a b && (rSet E a b && lSet E b p)
theorem any_iff {N : Nat} {q : Nat → Bool} : (List.range N).any q = true ↔ ∃ b, b < N ∧ q b = true := by simp
theorem rP_iff {E : List M} {i k a p : Nat} : rP E i k a p = true ↔ ∃ b, b < E.length ∧ (a < i ∨ a = i ∧ b < k) ∧ pix E a b = p := by
  simp [rP, ahd]
theorem lP_iff {E : List M} {i k b p : Nat} : lP E i k b p = true ↔ ∃ a, a < E.length ∧ (a < i ∨ a = i ∧ b < k) ∧ pix E a b = p := by
  simp [lP, ahd]
theorem bP_iff {E : List M} {i k a p : Nat} : bP E i k a p = true ↔ ∃ b, b < E.length ∧ (a < i ∨ a = i ∧ b < k) ∧ rSet E a b = true ∧ lSet E b p = true := by
  simp [bP, ahd]
section
variable {E : List M} {n : Int}
theorem rP_zero (E : List M) (a p : Nat) : rP E 0 0 a p = false := by rw [← Bool.not_eq_true, rP_iff]; rintro ⟨b, _, h, _⟩; omega
theorem lP_zero (E : List M) (a p : Nat) : lP E 0 0 a p = false := by rw [← Bool.not_eq_true, lP_iff]; rintro ⟨b, _, h, _⟩; omega
theorem bP_zero (E : List M) (a p : Nat) : bP E 0 0 a p = false := by rw [← Bool.not_eq_true, bP_iff]; rintro ⟨b, _, h, _⟩; omega
theorem rP_row (E : List M) (i a p : Nat) : rP E i E.length a p = rP E (i + 1) 0 a p := by
  rw [Bool.eq_iff_iff, rP_iff, rP_iff]
  exact ⟨fun ⟨b, h, h1, h2⟩ => ⟨b, h, by omega, h2⟩, fun ⟨b, h, h1, h2⟩ => ⟨b, h, by omega, h2⟩⟩
theorem lP_row (E : List M) (i : Nat) {b : Nat} (hb : b < E.length) (p : Nat) : lP E i E.length b p = lP E (i + 1) 0 b p := by
  rw [Bool.eq_iff_iff, lP_iff, lP_iff]
  exact ⟨fun ⟨a, h, h1, h2⟩ => ⟨a, h, by omega, h2⟩, fun ⟨a, h, h1, h2⟩ => ⟨a, h, by omega, h2⟩⟩
theorem bP_row (E : List M) (i a p : Nat) : bP E i E.length a p = bP E (i + 1) 0 a p := by
  rw [Bool.eq_iff_iff, bP_iff, bP_iff]
  exact ⟨fun ⟨b, h, h1, h2⟩ => ⟨b, h, by omega, h2⟩, fun ⟨b, h, h1, h2⟩ => ⟨b, h, by omega, h2⟩⟩
theorem rP_step {i k : Nat} (hk : k < E.length) (a p : Nat) : (rP E i k a p || decide (a = i ∧ p = pix E i k)) = rP E i (k + 1) a p := by
  rw [Bool.eq_iff_iff, Bool.or_eq_true, rP_iff, rP_iff, decide_eq_true_eq]
  constructor
  · rintro (⟨b, h, h1, h2⟩ | ⟨rfl, rfl⟩)
    · exact ⟨b, h, by omega, h2⟩
    · exact ⟨k, hk, by omega, rfl⟩
  · rintro ⟨b, h, h1, h2⟩
    by_cases e : a = i ∧ b = k
    · obtain ⟨rfl, rfl⟩ := e
      exact .inr ⟨rfl, h2.symm⟩
    · exact .inl ⟨b, h, by omega, h2⟩
theorem lP_step {i k : Nat} (hi : i < E.length) (b p : Nat) : (lP E i k b p || decide (b = k ∧ p = pix E i k)) = lP E i (k + 1) b p := by
  rw [Bool.eq_iff_iff, Bool.or_eq_true, lP_iff, lP_iff, decide_eq_true_eq]
  constructor
  · rintro (⟨a, h, h1, h2⟩ | ⟨rfl, rfl⟩)
    · exact ⟨a, h, by omega, h2⟩
    · exact ⟨i, hi, by omega, rfl⟩
  · rintro ⟨a, h, h1, h2⟩
    by_cases e : a = i ∧ b = k
    · obtain ⟨rfl, rfl⟩ := e
      exact .inr ⟨rfl, h2.symm⟩
    · exact .inl ⟨a, h, by omega, h2⟩
theorem bP_skip {i k : Nat} (h : rSet E i k = false) (a p : Nat) : bP E i k a p = bP E i (k + 1) a p := by
  rw [Bool.eq_iff_iff, bP_iff, bP_iff]
  constructor
  · rintro ⟨b, h0, h1, h2⟩
    exact ⟨b, h0, by omega, h2⟩
  · rintro ⟨b, h0, h1, h2, h3⟩
    refine ⟨b, h0, ?_, h2, h3⟩
    by_cases e : a = i ∧ b = k
    · rw [e.1, e.2, h] at h2; cases h2
    · omega
theorem bP_step {i k : Nat} (hk : k < E.length) (h : rSet E i k = true) (a p : Nat) : (bP E i k a p || (decide (a = i) && lSet E k p)) = bP E i (k + 1) a p := by
  rw [Bool.eq_iff_iff, Bool.or_eq_true, bP_iff, bP_iff, Bool.and_eq_true, decide_eq_true_eq]
  constructor
  · rintro (⟨b, h0, h1, h2⟩ | ⟨rfl, h2⟩)
    · exact ⟨b, h0, by omega, h2⟩
    · exact ⟨k, hk, by omega, h, h2⟩
  · rintro ⟨b, h0, h1, h2, h3⟩
    by_cases e : a = i ∧ b = k
    · obtain ⟨rfl, rfl⟩ := e
      exact .inr ⟨rfl, h3⟩
    · exact .inl ⟨b, h0, by omega, h2, h3⟩
theorem pix_lt (hm : Mnd n E) {i k : Nat} (hi : i < E.length) (hk : k < E.length) : pix E i k < E.length := hm.ix_mul hi hk
theorem rP_end (hm : Mnd n E) {a : Nat} (ha : a < E.length) (p : Nat) : rP E E.length 0 a p = rSet E a p := by
  rw [Bool.eq_iff_iff, rP_iff]
  unfold rSet
  simp only [Bool.and_eq_true, decide_eq_true_eq]
  constructor
  · rintro ⟨b, hb, _, rfl⟩
    refine ⟨pix_lt hm ha hb, gm E b, gm_mem hb, ?_⟩
    rw [pix, gm_ix (hm.mulE _ (gm_mem ha) _ (gm_mem hb))]
  · rintro ⟨hp, x, hx, e⟩
    refine ⟨ix E x, ix_lt hx, .inl ha, ?_⟩
    rw [pix, gm_ix hx, e, ix_gm hm.asc.nodup hp]
theorem lP_end (hm : Mnd n E) {b : Nat} (hb : b < E.length) (p : Nat) : lP E E.length 0 b p = lSet E b p := by
  rw [Bool.eq_iff_iff, lP_iff]
  unfold lSet
  simp only [Bool.and_eq_true, decide_eq_true_eq]
  constructor
  · rintro ⟨a, ha, _, rfl⟩
    refine ⟨pix_lt hm ha hb, gm E a, gm_mem ha, ?_⟩
    rw [pix, gm_ix (hm.mulE _ (gm_mem ha) _ (gm_mem hb))]
  · rintro ⟨hp, x, hx, e⟩
    refine ⟨ix E x, ix_lt hx, .inl (ix_lt hx), ?_⟩
    rw [pix, gm_ix hx, e, ix_gm hm.asc.nodup hp]
theorem bP_end (hm : Mnd n E) {a : Nat} (ha : a < E.length) (p : Nat) : bP E E.length 0 a p = jSet E a p := by
  rw [Bool.eq_iff_iff, bP_iff]
  unfold jSet
  simp only [Bool.and_eq_true, decide_eq_true_eq]
  rw [JJ_iff hm (gm_mem ha)]
  constructor
  · rintro ⟨b, hb, _, h1, h2⟩
    unfold rSet at h1
    unfold lSet at h2
    simp only [Bool.and_eq_true, decide_eq_true_eq] at h1 h2
    exact ⟨h2.1, b, hb, h1.2, h2.2⟩
  · rintro ⟨hp, b, hb, h1, h2⟩
    refine ⟨b, hb, .inl ha, ?_, ?_⟩
    · unfold rSet; simp [hb, h1]
    · unfold lSet; simp [hp, h2]
end
end Go.Proofs.Ytneonacdjmfaoaa
