/- What the reference's search reaches: plain laws. -/
import Derived.Test.YtneonacdjmfaoaaH1
namespace Go.Proofs.Ytneonacdjmfaoaa
open Go.RowKit
set_option maxRecDepth 100000
set_option linter.unusedSimpArgs false
set_option linter.unusedVariables false

section
variable {E ms : List M} {n : Int} {l r : Bool} {i0 a q x : Nat} {L : List Nat}
theorem Rch.start (hm : Mnd n E) (hi : i0 < E.length) : Rch E ms l r i0 [i0] 0 0 :=
  ⟨by simp, fun x hx => by simp at hx; subst hx; exact ⟨hi, Rel.refl hm (gm_mem hi)⟩, by simp, fun j x _ i _ h => by omega⟩
theorem Rch.row (h : Rch E ms l r i0 L a ms.length) : Rch E ms l r i0 L (a + 1) 0 :=
  ⟨h.nd, h.ok, h.i0, fun j x hj i hi h2 => h.cl j x hj i hi (by omega)⟩
/-- one more entry may stand at the end -/
theorem Rch.add (h : Rch E ms l r i0 L a q) (ha : a < L.length) {y : Nat} (hy : y < E.length ∧ Rel E l r (gm E i0) (gm E y)) : Rch E ms l r i0 (addQ L y) a q :=
  ⟨addQ_nd h.nd, fun z hz => by
    rcases addQ_in hz with hz | rfl
    · exact h.ok z hz
    · exact hy, addQ_of h.i0, fun j z hj i hi h2 => by
    rw [addQ_get (by omega)] at hj
    obtain ⟨h3, h4⟩ := h.cl j z hj i hi h2
    exact ⟨fun e => addQ_of (h3 e), fun e => addQ_of (h4 e)⟩⟩
theorem Rch.next (h : Rch E ms l r i0 L a q) (hx : L[a]? = some x) (hL : l = true → ix E (mul (gm ms q) (gm E x)) ∈ L) (hR : r = true → ix E (mul (gm E x) (gm ms q)) ∈ L) : Rch E ms l r i0 L a (q + 1) :=
  ⟨h.nd, h.ok, h.i0, fun j z hj i hi h2 => by
    by_cases e : j = a ∧ i = q
    · obtain ⟨rfl, rfl⟩ := e
      rw [hx] at hj
      injection hj with hj
      subst hj
      exact ⟨hL, hR⟩
    · exact h.cl j z hj i hi (by omega)⟩
theorem Rch.left (h : Rch E ms l r i0 L a q) (hm : Mnd n E) (hG : ∀ i, i < ms.length → gm ms i ∈ E) (hi0 : i0 < E.length) (hx : L[a]? = some x) (hq : q < ms.length) (hl : l = true) : ix E (mul (gm ms q) (gm E x)) < E.length ∧ Rel E l r (gm E i0) (gm E (ix E (mul (gm ms q) (gm E x)))) := by
  have hok := h.ok x (List.mem_of_getElem? hx)
  have hmem := hm.mulE _ (hG q hq) _ (gm_mem hok.1)
  refine ⟨ix_lt hmem, ?_⟩
  rw [gm_ix hmem]
  exact Rel.left hm (gm_mem hi0) (hG q hq) hl hok.2
theorem Rch.right (h : Rch E ms l r i0 L a q) (hm : Mnd n E) (hG : ∀ i, i < ms.length → gm ms i ∈ E) (hi0 : i0 < E.length) (hx : L[a]? = some x) (hq : q < ms.length) (hr : r = true) : ix E (mul (gm E x) (gm ms q)) < E.length ∧ Rel E l r (gm E i0) (gm E (ix E (mul (gm E x) (gm ms q)))) := by
  have hok := h.ok x (List.mem_of_getElem? hx)
  have hmem := hm.mulE _ (gm_mem hok.1) _ (hG q hq)
  refine ⟨ix_lt hmem, ?_⟩
  rw [gm_ix hmem]
  exact Rel.right hm (gm_mem hi0) (hG q hq) hr hok.2
theorem Rch.fin (h : Rch E ms l r i0 L L.length 0) (hm : Mnd n E) (hE : ∀ x, x ∈ E ↔ Mon ms n x) (hG : Pts n ms) (hi0 : i0 < E.length) {y : Nat} (hy : y < E.length) : decide (y ∈ L) = decide (Rel E l r (gm E i0) (gm E y)) := by
  rw [Bool.eq_iff_iff, decide_eq_true_eq, decide_eq_true_eq]
  constructor
  · exact fun hy => (h.ok y hy).2
  · intro hR
    have hGE : ∀ g ∈ ms, g ∈ E := fun g hg => (hE g).2 (Mon.gen hG hg)
    have key : ∀ f ∈ L.map (gm E), ∀ g ∈ ms, (l = true → mul g f ∈ L.map (gm E)) ∧ (r = true → mul f g ∈ L.map (gm E)) := by
      intro f hf g hg
      obtain ⟨x, hx, rfl⟩ := List.mem_map.1 hf
      obtain ⟨j, hj, e⟩ := List.getElem_of_mem hx
      obtain ⟨i, hi, e2⟩ := mem_gm hg
      have hok := h.ok x hx
      have h2 := h.cl j x (by rw [List.getElem?_eq_getElem hj, e]) i hi (.inl hj)
      rw [e2] at h2
      have m1 := hm.mulE _ (hGE g hg) _ (gm_mem hok.1)
      have m2 := hm.mulE _ (gm_mem hok.1) _ (hGE g hg)
      exact ⟨fun hl => List.mem_map.2 ⟨_, h2.1 hl, gm_ix m1⟩, fun hr => List.mem_map.2 ⟨_, h2.2 hr, gm_ix m2⟩⟩
    have h3 : gm E y ∈ L.map (gm E) := reach_all hm hE hG (fun f hf => by obtain ⟨x, hx, rfl⟩ := List.mem_map.1 hf; exact gm_mem (h.ok x hx).1) (List.mem_map_of_mem h.i0)
      (fun hl f hf g hg => (key f hf g hg).1 hl) (fun hr f hf g hg => (key f hf g hg).2 hr) hR
    obtain ⟨z, hz, e⟩ := List.mem_map.1 h3
    rw [← gm_inj hm.asc.nodup (h.ok z hz).1 hy e]
    exact hz
end
/-- the queue's numbers -/
def qI (L : List Nat) : List Int := L.map fun (x : Nat) => (x : Int)
theorem qI_len (L : List Nat) : (qI L).length = L.length := by simp [qI]
theorem qI_snoc (L : List Nat) (x : Nat) : qI (L ++ [x]) = qI L ++ [(x : Int)] := by simp [qI]
theorem qI_get {L : List Nat} {a x : Nat} (h : L[a]? = some x) : gi (qI L) a = (x : Int) := by
  unfold gi qI
  rw [List.getD_eq_getElem?_getD, List.getElem?_map, h]; rfl
end Go.Proofs.Ytneonacdjmfaoaa
