/- How an argument that is a list of maps reads; no conditions. -/
import Derived.Test.YtkbfocoaobiijaaGreatOpenI
import Derived.Test.YtkbfocoaobiijaaGreatSlM
import Derived.Deep.Slices
namespace Go.Proofs.YtkbfocoaobiijaaGreat
open Go.ChangeShapes Go.WideShapes Go.ChangeAt Go.RowKit
open Go.ChangeMaps (open_string shut_string)
set_option maxRecDepth 100000

section
variable {H : Type} {enc : TypeId × Value → H} {w : World} {base : Nat} {spare : Nat → Bool} {held : Bool}
theorem add_none (b off j : Nat) : (⟨b, off, none⟩ : Addr).add j = ⟨b, off + j, none⟩ := by
  unfold Addr.add
  split
  · rename_i h; subst h; rfl
  · rfl
/-- a list whose maps stand one behind the other -/
theorem rdM_of {w : World} {b off n : Nat} {f : Nat → M} (hb : 0 < n → b < w.heap.size) (h : ∀ i, i < n → SixAt w b (off + i * 6) (f i)) : RdM w w.heap.size (some ⟨b, off, none⟩) ((List.range n).map f) := by
  refine ⟨mcs_length _, fun h0 => ?_⟩
  have hl : ((List.range n).map f).length = n := by simp
  rw [hl] at h0
  refine ⟨b, off, rfl, hb h0, fun j u hu => ?_⟩
  have hj : j < n * 6 := by
    rcases Nat.lt_or_ge j (n * 6) with h' | h'
    · exact h'
    · rw [List.getElem?_eq_none (by rw [mcs_length, hl]; exact h')] at hu; cases hu
  have hk : j / 6 < n := by omega
  have hm : j % 6 < 6 := Nat.mod_lt _ (by decide)
  have e : j = j / 6 * 6 + j % 6 := by omega
  have hg := mcs_get (ms := (List.range n).map f) (k := j / 6) (j := j % 6) (by rw [hl]; exact hk) hm
  rw [← e, hu] at hg
  have hgm : gm ((List.range n).map f) (j / 6) = f (j / 6) := by rw [gm_eq (by rw [hl]; exact hk)]; simp
  rw [hgm] at hg
  obtain ⟨c0, c1, c2, c3, c4, c5⟩ := h (j / 6) hk
  have key : ∀ r u, r < 6 → (mc (f (j / 6))).toList[r]? = some u → w.cell? ⟨b, off + j / 6 * 6 + r, none⟩ = some u := by
    intro r u hr hu'
    match r, hr with
    | 0, _ => rw [← hu']; exact c0
    | 1, _ => rw [← hu']; exact c1
    | 2, _ => rw [← hu']; exact c2
    | 3, _ => rw [← hu']; exact c3
    | 4, _ => rw [← hu']; exact c4
    | 5, _ => rw [← hu']; exact c5
  have h1 := key (j % 6) u hm hg.symm
  have e2 : off + j / 6 * 6 + j % 6 = off + j := by omega
  rwa [e2] at h1

/-- an argument that is a list of maps -/
theorem open_maps {r : Reach} {b0 : Nat} {v : Value} {d : DataW H} {p : List MemPlace} (hv : Value.okWide Tryz.prog w r b0 77 v) (h : DataW.Trod enc Tryz.prog w base spare held 77 v d p) :
    ∃ (A : Option Addr) (n c : Nat) (ms : List M), v = .slice A n c ∧ (ms.length = n ∧ RdM w w.heap.size A ms ∧ n ≤ maxLen) := by
  obtain ⟨A, n, c, rfl⟩ := okWide_slice Tryz.underlying77 hv
  obtain ⟨fuel, hf⟩ := h
  rcases Go.Deep.open_slice Tryz.underlying77 hf with ⟨hcs, _⟩ | ⟨a, len, cap, m, k, D, Pl, hcs, _, hlc, hcm, hm, _, hel⟩
  · simp [Value.cells] at hcs
    obtain ⟨rfl, rfl, rfl⟩ := hcs
    exact ⟨none, 0, 0, [], rfl, rfl, Rd.nil_, by unfold maxLen; omega⟩
  · simp [Value.cells] at hcs
    obtain ⟨rfl, rfl, rfl⟩ := hcs
    have hle : n ≤ m := by rw [hm]; split <;> omega
    rw [cellsLM] at hel
    rcases Nat.eq_zero_or_pos n with h0 | h0
    · subst h0
      exact ⟨some a, 0, c, [], rfl, rfl, Rd.nil_, by omega⟩
    · have hs : a.spot = none := by
        obtain ⟨cs', h1, h2⟩ := hel 0 (by omega)
        obtain ⟨f, rfl, _⟩ := cells_map h2
        obtain ⟨_, _, hc⟩ := World.cells?_some h1
        exact spot_of_cell (hc 0 (by decide))
      obtain ⟨b, off, sp⟩ := a
      simp only at hs
      subst hs
      have each : ∀ i, i < n → ∃ f : M, SixAt w b (off + i * 6) f := by
        intro i hi
        obtain ⟨cs', h1, h2⟩ := hel i (by omega)
        obtain ⟨f, rfl, _⟩ := cells_map h2
        obtain ⟨_, _, hc⟩ := World.cells?_some h1
        rw [add_none] at hc
        refine ⟨f, ?_⟩
        have k : ∀ j u, j < 6 → (mc f).toList[j]? = some u → w.cell? ⟨b, off + i * 6 + j, none⟩ = some u := fun j u hj hu => by
          have := hc j hj
          rw [add_none] at this
          rw [this, hu]
        exact ⟨k 0 _ (by decide) rfl, k 1 _ (by decide) rfl, k 2 _ (by decide) rfl, k 3 _ (by decide) rfl, k 4 _ (by decide) rfl, k 5 _ (by decide) rfl⟩
      have hex : ∃ F : Nat → M, ∀ i, i < n → SixAt w b (off + i * 6) (F i) :=
        ⟨fun i => if h : i < n then Classical.choose (each i h) else M0, fun i hi => by show SixAt w b (off + i * 6) (if h : i < n then Classical.choose (each i h) else M0); rw [dif_pos hi]; exact Classical.choose_spec (each i hi)⟩
      obtain ⟨F, hF⟩ := hex
      exact ⟨_, n, c, (List.range n).map F, rfl, by simp, rdM_of (fun h => (hF 0 h).lt) hF, by omega⟩
end
end Go.Proofs.YtkbfocoaobiijaaGreat
