/- Numbers of maps, places of elements, and what the elements of a monoid are, in plain words; no conditions beyond those that each theorem states. -/
import Derived.Test.YtknknljkmkfmoaaK3
namespace Go.Proofs.Ytknknljkmkfmoaa
open Go.RowKit
set_option maxRecDepth 100000

/-! ### the number of a map -/
def num (f : M) : Int := (((f.t0 * 5 + f.t1) * 5 + f.t2) * 5 + f.t3) * 5 + f.t4
theorem num_bd {f : M} (hf : Valid f) : 0 ≤ num f ∧ num f < 3125 := by
  have h0 := hf.nn (k := 0) (by omega); have h1 := hf.nn (k := 1) (by omega); have h2 := hf.nn (k := 2) (by omega); have h3 := hf.nn (k := 3) (by omega); have h4 := hf.nn (k := 4) (by omega)
  simp only [M.at] at h0 h1 h2 h3 h4
  unfold num
  omega
theorem digit {x y a b : Int} (ha : 0 ≤ a ∧ a < 5) (hb : 0 ≤ b ∧ b < 5) (h : x * 5 + a = y * 5 + b) : x = y ∧ a = b := by omega
theorem num_inj {f g : M} (hf : Valid f) (hg : Valid g) (hp : f.p = g.p) (h : num f = num g) : f = g := by
  have a0 := hf.nn (k := 0) (by omega); have a1 := hf.nn (k := 1) (by omega); have a2 := hf.nn (k := 2) (by omega); have a3 := hf.nn (k := 3) (by omega); have a4 := hf.nn (k := 4) (by omega)
  have b0 := hg.nn (k := 0) (by omega); have b1 := hg.nn (k := 1) (by omega); have b2 := hg.nn (k := 2) (by omega); have b3 := hg.nn (k := 3) (by omega); have b4 := hg.nn (k := 4) (by omega)
  simp only [M.at] at a0 a1 a2 a3 a4 b0 b1 b2 b3 b4
  unfold num at h
  obtain ⟨h, e4⟩ := digit a4 b4 h
  obtain ⟨h, e3⟩ := digit a3 b3 h
  obtain ⟨h, e2⟩ := digit a2 b2 h
  obtain ⟨e0, e1⟩ := digit a1 b1 h
  obtain ⟨p, x0, x1, x2, x3, x4⟩ := f
  obtain ⟨q, y0, y1, y2, y3, y4⟩ := g
  simp only at hp e0 e1 e2 e3 e4
  subst hp e0 e1 e2 e3 e4
  rfl

/-! ### places -/
def ix (E : List M) (f : M) : Nat := E.idxOf f
theorem ix_lt {E : List M} {f : M} (h : f ∈ E) : ix E f < E.length := List.idxOf_lt_length_of_mem h
theorem gm_ix {E : List M} {f : M} (h : f ∈ E) : gm E (ix E f) = f := by
  rw [gm_eq (ix_lt h)]
  exact List.getElem_idxOf (ix_lt h)
theorem gm_mem {E : List M} {i : Nat} (h : i < E.length) : gm E i ∈ E := by rw [gm_eq h]; exact List.getElem_mem h
theorem gm_inj {E : List M} (hn : E.Nodup) {i k : Nat} (hi : i < E.length) (hk : k < E.length) (h : gm E i = gm E k) : i = k := by
  rw [gm_eq hi, gm_eq hk] at h
  exact (List.getElem_inj hn).1 h
theorem ix_gm {E : List M} (hn : E.Nodup) {i : Nat} (hi : i < E.length) : ix E (gm E i) = i := gm_inj hn (ix_lt (gm_mem hi)) hi (gm_ix (gm_mem hi))
theorem mem_gm {E : List M} {f : M} (h : f ∈ E) : ∃ i, i < E.length ∧ gm E i = f := ⟨_, ix_lt h, gm_ix h⟩

/-- a place and one more, or zero -/
def plOf (E : List M) (f : M) : Int := if f ∈ E then (ix E f : Int) + 1 else 0
theorem plOf_nil (f : M) : plOf [] f = 0 := by simp [plOf]
theorem plOf_pos {E : List M} {f : M} : 0 < plOf E f ↔ f ∈ E := by
  unfold plOf
  split
  · rename_i h; simp [h]
  · rename_i h; simp [h]
theorem plOf_in {E : List M} {f : M} (h : f ∈ E) : plOf E f = (ix E f : Int) + 1 := if_pos h
theorem plOf_out {E : List M} {f : M} (h : f ∉ E) : plOf E f = 0 := if_neg h
theorem ix_app {E : List M} {f g : M} (h : f ∈ E) : ix (E ++ [g]) f = ix E f := by
  unfold ix; rw [List.idxOf_append]; simp [h]
theorem ix_last {E : List M} {g : M} (h : g ∉ E) : ix (E ++ [g]) g = E.length := by
  unfold ix; rw [List.idxOf_append]; simp [h]
theorem plOf_app {E : List M} {f g : M} (hg : g ∉ E) : plOf (E ++ [g]) f = if f = g then (E.length : Int) + 1 else plOf E f := by
  by_cases e : f = g
  · subst e; rw [if_pos rfl, plOf_in (by simp), ix_last hg]
  · rw [if_neg e]
    by_cases h : f ∈ E
    · rw [plOf_in (by simp [h]), plOf_in h, ix_app h]
    · rw [plOf_out (by simp [h, e]), plOf_out h]
/-- the table of places stands right for maps of n points -/
def Plc (n : Int) (E : List M) (pl : Nat → Int) : Prop := ∀ f, Valid f → f.p = n → pl (num f).toNat = plOf E f
theorem Plc.step {n : Int} {E : List M} {pl : Nat → Int} (h : Plc n E pl) {g : M} (hv : Valid g) (hp : g.p = n) (hg : g ∉ E) : Plc n (E ++ [g]) fun j => if j = (num g).toNat then (E.length : Int) + 1 else pl j := by
  intro f hf hfp
  rw [plOf_app hg]
  by_cases e : f = g
  · subst e; simp
  · have hne : (num f).toNat ≠ (num g).toNat := by
      intro e'
      have h1 := num_bd hf; have h2 := num_bd hv
      exact e (num_inj hf hv (by rw [hfp, hp]) (by omega))
    simp only [if_neg hne, if_neg e]
    exact h f hf hfp
/-- half of the places turned to another list of the same maps -/
def PlcTo (n : Int) (E F : List M) (k : Nat) (pl : Nat → Int) : Prop := ∀ f, Valid f → f.p = n → pl (num f).toNat = if f ∈ E ∧ ix E f < k then (ix E f : Int) + 1 else plOf F f
theorem PlcTo.start {n : Int} {E F : List M} {pl : Nat → Int} (h : Plc n F pl) : PlcTo n E F 0 pl := by
  intro f hf hp
  rw [if_neg (by omega)]
  exact h f hf hp
theorem PlcTo.step {n : Int} {E F : List M} {k : Nat} {pl : Nat → Int} (h : PlcTo n E F k pl) (hn : E.Nodup) (hk : k < E.length) (hok : ∀ f ∈ E, Valid f ∧ f.p = n) : PlcTo n E F (k + 1) fun j => if j = (num (gm E k)).toNat then (k : Int) + 1 else pl j := by
  intro f hf hp
  have hm := gm_mem hk
  by_cases e : f = gm E k
  · subst e
    rw [if_pos ⟨hm, by rw [ix_gm hn hk]; omega⟩, ix_gm hn hk]
    simp
  · have hne : (num f).toNat ≠ (num (gm E k)).toNat := by
      intro e'
      have h1 := num_bd hf; have h2 := num_bd (hok _ hm).1
      exact e (num_inj hf (hok _ hm).1 (by rw [hp, (hok _ hm).2]) (by omega))
    simp only [if_neg hne]
    rw [h f hf hp]
    by_cases hE : f ∈ E
    · have : ix E f ≠ k := fun e' => e (by rw [← e']; exact (gm_ix hE).symm)
      by_cases hl : ix E f < k
      · rw [if_pos ⟨hE, hl⟩, if_pos ⟨hE, by omega⟩]
      · rw [if_neg (fun h => hl h.2), if_neg (fun h => by have := h.2; omega)]
    · rw [if_neg (fun h => hE h.1), if_neg (fun h => hE h.1)]
theorem PlcTo.fin {n : Int} {E F : List M} {k : Nat} {pl : Nat → Int} (h : PlcTo n E F k pl) (hk : E.length ≤ k) (hs : ∀ f, f ∈ E ↔ f ∈ F) : Plc n E pl := by
  intro f hf hp
  rw [h f hf hp]
  by_cases hE : f ∈ E
  · rw [if_pos ⟨hE, by have := ix_lt hE; omega⟩, plOf_in hE]
  · rw [if_neg (fun h => hE h.1), plOf_out hE, plOf_out fun h => hE ((hs f).2 h)]

/-! ### the elements -/
section
variable {gens : List M} {n : Int}
theorem clo_mnd {ps : Met} (h1 : 1 ≤ n) (h5 : n ≤ 5) (hG : Pts n gens) (h : clo gens n = some ps) : Mnd n (sortM (ps.map (·.1))) := by
  refine ⟨sortM_asc _, fun f hf => ?_, ?_, fun f hf g hg => ?_⟩
  · rw [sortM_mem, clo_mem h] at hf; exact hf.ok h1 h5 hG
  · rw [sortM_mem, clo_mem h]; exact .one
  · rw [sortM_mem, clo_mem h] at hf hg ⊢; exact hf.mul h1 h5 hG hg
theorem els_some {E : List M} (h : els gens n = some E) : ∃ ps, clo gens n = some ps ∧ E = sortM (ps.map (·.1)) := by
  unfold els at h
  cases hc : clo gens n with
  | none => rw [hc] at h; cases h
  | some ps => rw [hc] at h; injection h with h; exact ⟨ps, rfl, h.symm⟩
theorem els_none {gens : List M} {n : Int} (h : clo gens n = none) : els gens n = none := by unfold els; rw [h]; rfl
theorem els_of {ps : Met} (h : clo gens n = some ps) : els gens n = some (sortM (ps.map (·.1))) := by unfold els; rw [h]; rfl
theorem els_mem {E : List M} (h : els gens n = some E) {x : M} : x ∈ E ↔ Mon gens n x := by
  obtain ⟨ps, hc, rfl⟩ := els_some h
  rw [sortM_mem, clo_mem hc]
theorem els_mnd {E : List M} (h1 : 1 ≤ n) (h5 : n ≤ 5) (hG : Pts n gens) (h : els gens n = some E) : Mnd n E := by
  obtain ⟨ps, hc, rfl⟩ := els_some h
  exact clo_mnd h1 h5 hG hc
theorem els_len {E : List M} (h : els gens n = some E) : E.length ≤ 300 := by
  obtain ⟨ps, hc, rfl⟩ := els_some h
  rw [sortM_length (clo_good hc).1.nd, List.length_map]
  exact (clo_good hc).1.len
theorem Mnd.pos {E : List M} (h : Mnd n E) : 0 < E.length := List.length_pos_of_mem h.oneE
theorem Mnd.ix_mul {E : List M} (h : Mnd n E) {i k : Nat} (hi : i < E.length) (hk : k < E.length) : ix E (mul (gm E i) (gm E k)) < E.length := ix_lt (h.mulE _ (gm_mem hi) _ (gm_mem hk))
/-- the word of a met map -/
def wordOf (ps : Met) (f : M) : List Int := (pm ps (ix (ps.map (·.1)) f)).2
theorem pm_fst {ps : Met} {i : Nat} (h : i < ps.length) : (pm ps i).1 = gm (ps.map (·.1)) i := by
  rw [pm_eq h, gm_eq (by simpa using h), List.getElem_map]
theorem wordOf_pm {ps : Met} (hn : (ps.map (·.1)).Nodup) {i : Nat} (h : i < ps.length) : wordOf ps (pm ps i).1 = (pm ps i).2 := by
  rw [wordOf, pm_fst h, ix_gm hn (by simpa using h)]
end
end Go.Proofs.Ytknknljkmkfmoaa
