/- Contracts of the kernel of a map; the maps are valid where the theorems say so. -/
import Derived.Test.YtkbfocoaobiijaaGreatC3
import Derived.Test.YtkbfocoaobiijaaGreatSl
import Derived.Test.YtkbfocoaobiijaaGreatS1
import Derived.Deep.QuietTactic
import Derived.BigQuiet
import Derived.IntWalk
namespace Go.Proofs.YtkbfocoaobiijaaGreat
open Go.RowKit
set_option maxRecDepth 100000

/-- the first point from s on that is led where i is led -/
def fe (f : M) (i : Nat) : Nat → Nat → Nat
  | 0, s => s
  | n + 1, s => if f.at s = f.at i then s else fe f i n (s + 1)
theorem fe_eq {f : M} {i k : Nat} (hki : k ≤ i) (he : f.at k = f.at i) : ∀ (n s : Nat), s + n = i → s ≤ k → (∀ j, s ≤ j → j < k → f.at j ≠ f.at i) → fe f i n s = k
  | 0, s, h1, h2, _ => by simp only [fe]; omega
  | n + 1, s, h1, h2, h3 => by
    by_cases h : s = k
    · subst h; simp [fe, he]
    · rw [fe, if_neg (h3 s (Nat.le_refl _) (by omega))]
      exact fe_eq hki he n (s + 1) (by omega) (by omega) fun j hj => h3 j (by omega)
theorem fe_le (f : M) (i : Nat) : ∀ (n s : Nat), s + n = i → fe f i n s ≤ i
  | 0, s, h => by simp only [fe]; omega
  | n + 1, s, h => by
    rw [fe]; split
    · omega
    · exact fe_le f i n (s + 1) (by omega)
/-- the numbers of the classes of the points below i, and the next number -/
def kn (f : M) : Nat → List Int × Int
  | 0 => ([], 0)
  | i + 1 => if fe f i i 0 < i then ((kn f i).1 ++ [gi (kn f i).1 (fe f i i 0)], (kn f i).2) else ((kn f i).1 ++ [(kn f i).2], (kn f i).2 + 1)
theorem kn_length (f : M) : ∀ i, (kn f i).1.length = i
  | 0 => rfl
  | i + 1 => by rw [kn]; split <;> simp [kn_length f i]
theorem gi_snoc (l : List Int) (x : Int) (j : Nat) (h : j ≤ l.length) : gi (l ++ [x]) j = if j < l.length then gi l j else x := by
  unfold gi
  by_cases hj : j < l.length
  · rw [if_pos hj]; simp [List.getD, List.getElem?_append_left hj]
  · rw [if_neg hj]
    obtain rfl : j = l.length := by omega
    simp [List.getD]
theorem kn_bd (f : M) : ∀ i, 0 ≤ (kn f i).2 ∧ (kn f i).2 ≤ i ∧ ∀ j, j < i → 0 ≤ gi (kn f i).1 j ∧ gi (kn f i).1 j < (kn f i).2
  | 0 => ⟨by simp [kn], by simp [kn], fun j hj => by omega⟩
  | i + 1 => by
    obtain ⟨h1, h2, h3⟩ := kn_bd f i
    have hl := kn_length f i
    rw [kn]
    split
    · rename_i hlt
      refine ⟨h1, by simp only []; omega, fun j hj => ?_⟩
      simp only []
      rw [gi_snoc _ _ _ (by omega)]
      split
      · exact h3 j (by omega)
      · exact h3 _ hlt
    · refine ⟨by simp only []; omega, by simp only []; omega, fun j hj => ?_⟩
      simp only []
      rw [gi_snoc _ _ _ (by omega)]
      split
      · have := h3 j (by omega); omega
      · omega
theorem kn_old {f : M} {i k : Nat} (hk : k < i) (he : f.at k = f.at i) (hn : ∀ j, j < k → f.at j ≠ f.at i) : kn f (i + 1) = ((kn f i).1 ++ [gi (kn f i).1 k], (kn f i).2) := by
  have : fe f i i 0 = k := fe_eq (by omega) he i 0 (by omega) (by omega) fun j _ => hn j
  rw [kn, this, if_pos hk]
theorem kn_new {f : M} {i : Nat} (hn : ∀ j, j < i → f.at j ≠ f.at i) : kn f (i + 1) = ((kn f i).1 ++ [(kn f i).2], (kn f i).2 + 1) := by
  have : fe f i i 0 = i := fe_eq (Nat.le_refl _) rfl i 0 (by omega) (by omega) fun j _ => hn j
  rw [kn, this, if_neg (by omega)]
def kfill (f : M) (n i : Nat) : List Int := (kn f i).1 ++ List.replicate (n - i) 0
theorem kfill_length {f : M} {n i : Nat} (h : i ≤ n) : (kfill f n i).length = n := by simp [kfill, kn_length]; omega
theorem kfill_zero (f : M) (n : Nat) : kfill f n 0 = List.replicate n 0 := by simp [kfill, kn]
theorem kfill_all (f : M) (n : Nat) : kfill f n n = (kn f n).1 := by simp [kfill]
theorem gi_kfill {f : M} {n i j : Nat} (h : j < i) : gi (kfill f n i) j = gi (kn f i).1 j := by
  unfold gi kfill
  simp [List.getD, List.getElem?_append_left (show j < (kn f i).1.length by rw [kn_length]; exact h)]
theorem kfill_set {f : M} {n i : Nat} {x : Int} (h : i < n) (hx : (kn f (i + 1)).1 = (kn f i).1 ++ [x]) : (kfill f n i).set i x = kfill f n (i + 1) := by
  have hl := kn_length f i
  unfold kfill
  rw [hx, List.set_append_right _ _ (by omega), hl, Nat.sub_self]
  obtain ⟨m, hm⟩ : ∃ m, n - i = m + 1 := ⟨n - i - 1, by omega⟩
  rw [hm, show n - (i + 1) = m by omega, List.replicate_succ]
  simp

theorem OwI.spotAt {e : TypeId} {w : World} {B g n c : Nat} {zs : List Int} (h : OwI e w B (.slice (some ⟨g, 0, none⟩) n c) zs) {k : Nat} (hk : k < zs.length) :
    w.cell? ⟨g, k, none⟩ = some (I (gi zs k)) ∧ w.frozen? ⟨g, k, none⟩ = false ∧ g < w.heap.size ∧ B ≤ g ∧ ∀ z, OwI e (w.setCell ⟨g, k, none⟩ (I z)) B (.slice (some ⟨g, 0, none⟩) n c) (zs.set k z) := by
  obtain ⟨g', c', hv, h1, h2, h3, h4, h5⟩ := h.spot hk
  injection hv with hv e2 e3
  injection hv with hv
  injection hv with hv _ _
  subst hv
  exact ⟨h3, h4, h2, h1, h5⟩

/-- the number of i, as far as the points from s on tell -/
def ownN (f : M) (i s : Nat) : Int := if fe f i (i - s) s < i then gi (kn f i).1 (fe f i (i - s) s) else (kn f i).2
theorem own_last (f : M) (i : Nat) : ownN f i i = (kn f i).2 := by simp [ownN, fe]
theorem own_hit {f : M} {i s : Nat} (hs : s < i) (he : f.at s = f.at i) : ownN f i s = gi (kn f i).1 s := by
  obtain ⟨n, hn⟩ : ∃ n, i - s = n + 1 := ⟨i - s - 1, by omega⟩
  rw [ownN, hn, fe, if_pos he, if_pos hs]
theorem own_miss {f : M} {i s : Nat} (hs : s < i) (he : ¬ f.at s = f.at i) : ownN f i s = ownN f i (s + 1) := by
  obtain ⟨n, hn⟩ : ∃ n, i - s = n + 1 := ⟨i - s - 1, by omega⟩
  rw [ownN, ownN, hn, fe, if_neg he, show i - (s + 1) = n by omega]
theorem kn_own (f : M) (i : Nat) : kn f (i + 1) = ((kn f i).1 ++ [ownN f i 0], if ownN f i 0 = (kn f i).2 then (kn f i).2 + 1 else (kn f i).2) := by
  rw [kn, ownN, Nat.sub_zero]
  by_cases h : fe f i i 0 < i
  · rw [if_pos h, if_pos h]
    have := (kn_bd f i).2.2 _ h
    rw [if_neg (by omega)]
  · rw [if_neg h, if_neg h, if_pos rfl]
theorem own_bd (f : M) (i : Nat) : ∀ n s, s + n = i → 0 ≤ ownN f i s ∧ ownN f i s ≤ i := by
  intro n s h
  obtain ⟨h1, h2, h3⟩ := kn_bd f i
  rw [ownN]; split
  · rename_i hlt; have := h3 _ hlt; omega
  · omega

def kerR (f : M) : List Int := if isMap f then (kn f f.p.toNat).1 else []
theorem kerR_bad {f : M} (h : isMap f = false) : kerR f = [] := by simp [kerR, h]
theorem kerR_good {f : M} (h : isMap f = true) : kerR f = (kn f f.p.toNat).1 := by simp [kerR, h]
theorem kerR_len (f : M) : (kerR f).length < 1073741824 := by
  cases h : isMap f
  · rw [kerR_bad h]; simp
  · rw [kerR_good h, kn_length]; have := ((isMap_iff f).1 h).p5; omega

end Go.Proofs.YtkbfocoaobiijaaGreat
