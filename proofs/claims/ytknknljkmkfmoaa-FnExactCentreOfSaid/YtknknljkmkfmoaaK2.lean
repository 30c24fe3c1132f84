/- Numbers of classes in plain words; no conditions beyond those that each theorem states. -/
import Derived.Test.YtknknljkmkfmoaaSl
namespace Go.Proofs.Ytknknljkmkfmoaa
open Go.RowKit
set_option maxRecDepth 100000

/-- the first number below i that is such, or i -/
def fk (p : Nat → Bool) (i : Nat) : Nat := ((List.range i).find? p).getD i
theorem fk_eq {p : Nat → Bool} {i k : Nat} (hk : k < i) (hp : p k = true) (hm : ∀ j, j < k → p j = false) : fk p i = k := by
  have : (List.range i).find? p = some k := by
    rw [List.find?_range_eq_some]
    exact ⟨hp, by simpa using hk, fun j hj => by simp [hm j hj]⟩
  rw [fk, this]; rfl
theorem fk_none {p : Nat → Bool} {i : Nat} (h : ∀ j, j < i → p j = false) : fk p i = i := by
  have : (List.range i).find? p = none := by
    rw [List.find?_eq_none]
    intro j hj
    simp [h j (by simpa using hj)]
  rw [fk, this]; rfl
theorem fk_cases (p : Nat → Bool) (i : Nat) : (fk p i < i ∧ p (fk p i) = true ∧ ∀ j, j < fk p i → p j = false) ∨ (fk p i = i ∧ ∀ j, j < i → p j = false) := by
  cases h : (List.range i).find? p with
  | none =>
    rw [List.find?_eq_none] at h
    have h' : ∀ j, j < i → p j = false := fun j hj => by simpa using h j (by simpa using hj)
    exact .inr ⟨fk_none h', h'⟩
  | some k =>
    rw [List.find?_range_eq_some] at h
    obtain ⟨h1, h2, h3⟩ := h
    have hk : k < i := by simpa using h2
    have h3' : ∀ j, j < k → p j = false := fun j hj => by simpa using h3 j hj
    have e := fk_eq hk h1 h3'
    rw [e]
    exact .inl ⟨hk, h1, h3'⟩

/-- the numbers of the classes of n things, and how many there are -/
def nm (same : Nat → Nat → Bool) : Nat → List Int × Int
  | 0 => ([], 0)
  | i + 1 => if fk (fun k => same k i) i < i then ((nm same i).1 ++ [gi (nm same i).1 (fk (fun k => same k i) i)], (nm same i).2) else ((nm same i).1 ++ [(nm same i).2], (nm same i).2 + 1)
theorem nm_hit {same : Nat → Nat → Bool} {i k : Nat} (hk : k < i) (hs : same k i = true) (hm : ∀ j, j < k → same j i = false) : nm same (i + 1) = ((nm same i).1 ++ [gi (nm same i).1 k], (nm same i).2) := by
  have e := fk_eq (p := fun k => same k i) hk hs hm
  rw [nm, e, if_pos hk]
theorem nm_new {same : Nat → Nat → Bool} {i : Nat} (hm : ∀ j, j < i → same j i = false) : nm same (i + 1) = ((nm same i).1 ++ [(nm same i).2], (nm same i).2 + 1) := by
  have e := fk_none (p := fun k => same k i) hm
  rw [nm, e, if_neg (Nat.lt_irrefl i)]
theorem nm_length (same : Nat → Nat → Bool) : ∀ i, (nm same i).1.length = i
  | 0 => rfl
  | i + 1 => by rw [nm]; split <;> simp [nm_length same i]
theorem nm_bd (same : Nat → Nat → Bool) : ∀ i, 0 ≤ (nm same i).2 ∧ (nm same i).2 ≤ i
  | 0 => by simp [nm]
  | i + 1 => by have := nm_bd same i; rw [nm]; split <;> simp <;> omega
theorem gi_app {xs ys : List Int} {j : Nat} (h : j < xs.length) : gi (xs ++ ys) j = gi xs j := by
  rw [gi_eq h, gi_eq (by simp; omega), List.getElem_append_left h]
theorem gi_last {xs : List Int} {z : Int} {j : Nat} (h : xs.length = j) : gi (xs ++ [z]) j = z := by
  subst h
  rw [gi_eq (by simp), List.getElem_append_right (by simp)]
  simp
theorem nm_val (same : Nat → Nat → Bool) : ∀ i j, j < i → 0 ≤ gi (nm same i).1 j ∧ gi (nm same i).1 j < (nm same i).2
  | 0, j, h => by omega
  | i + 1, j, h => by
    have hl := nm_length same i
    have hb := nm_bd same i
    rcases fk_cases (fun k => same k i) i with ⟨h1, h2, h3⟩ | ⟨h1, h3⟩
    · rw [nm_hit h1 h2 h3]
      by_cases e : j = i
      · subst e
        rw [gi_last hl]
        exact nm_val same _ _ h1
      · rw [gi_app (by omega)]
        exact nm_val same i j (by omega)
    · rw [nm_new h3]
      by_cases e : j = i
      · subst e
        rw [gi_last hl]
        exact ⟨hb.1, by show (nm same j).2 < (nm same j).2 + 1; omega⟩
      · rw [gi_app (by omega)]
        have := nm_val same i j (by omega)
        exact ⟨this.1, by simp; omega⟩
theorem nm_onto (same : Nat → Nat → Bool) : ∀ i (c : Int), 0 ≤ c → c < (nm same i).2 → ∃ j, j < i ∧ gi (nm same i).1 j = c
  | 0, c, h0, h => by simp [nm] at h; omega
  | i + 1, c, h0, h => by
    have hl := nm_length same i
    rcases fk_cases (fun k => same k i) i with ⟨h1, h2, h3⟩ | ⟨h1, h3⟩
    · rw [nm_hit h1 h2 h3] at h ⊢
      obtain ⟨j, hj, e⟩ := nm_onto same i c h0 h
      exact ⟨j, by omega, by rw [gi_app (by omega)]; exact e⟩
    · rw [nm_new h3] at h ⊢
      simp only at h ⊢
      by_cases e : c = (nm same i).2
      · exact ⟨i, by omega, by rw [gi_last hl]; exact e.symm⟩
      · obtain ⟨j, hj, e'⟩ := nm_onto same i c h0 (by omega)
        exact ⟨j, by omega, by rw [gi_app (by omega)]; exact e'⟩
/-- things have one number just if they are in one class -/
theorem nm_same {same : Nat → Nat → Bool} {n : Nat} (hr : ∀ a, a < n → same a a = true) (hs : ∀ a b, a < n → b < n → same a b = true → same b a = true) (ht : ∀ a b c, a < n → b < n → c < n → same a b = true → same b c = true → same a c = true) :
    ∀ i, i ≤ n → ∀ j k, j < i → k < i → (gi (nm same i).1 j = gi (nm same i).1 k ↔ same j k = true)
  | 0, _, j, k, hj, _ => by omega
  | i + 1, hi, j, k, hj, hk => by
    have hl := nm_length same i
    have ih := nm_same hr hs ht i (by omega)
    have hv := nm_val same i
    -- the last one against an earlier one
    have key : ∀ j, j < i → (gi (nm same (i + 1)).1 j = gi (nm same (i + 1)).1 i ↔ same j i = true) := by
      intro j hj
      rcases fk_cases (fun k => same k i) i with ⟨h1, h2, h3⟩ | ⟨h1, h3⟩
      · rw [nm_hit h1 h2 h3, gi_last hl, gi_app (by omega), ih j _ hj h1]
        constructor
        · intro h; exact ht _ _ _ (by omega) (by omega) (by omega) h h2
        · intro h; exact ht _ _ _ (by omega) (by omega) (by omega) h (hs _ _ (by omega) (by omega) h2)
      · rw [nm_new h3, gi_last hl, gi_app (by omega)]
        have := hv j hj
        have := h3 j hj
        constructor
        · intro h; omega
        · intro h; rw [this] at h; cases h
    by_cases ej : j = i
    · by_cases ek : k = i
      · rw [ej, ek]; simp [hr i (by omega)]
      · subst ej
        have := key k (by omega)
        constructor
        · intro h; exact hs _ _ (by omega) (by omega) (this.1 h.symm)
        · intro h; exact (this.2 (hs _ _ (by omega) (by omega) h)).symm
    · by_cases ek : k = i
      · subst ek; exact key j (by omega)
      · have e : ∀ m, m < i → gi (nm same (i + 1)).1 m = gi (nm same i).1 m := by
          intro m hm
          rcases fk_cases (fun k => same k i) i with ⟨h1, h2, h3⟩ | ⟨h1, h3⟩
          · rw [nm_hit h1 h2 h3, gi_app (by omega)]
          · rw [nm_new h3, gi_app (by omega)]
        rw [e j (by omega), e k (by omega)]
        exact ih j k (by omega) (by omega)
theorem nm_congr {same same' : Nat → Nat → Bool} : ∀ {i : Nat}, (∀ a b, a < i → b < i → same a b = same' a b) → nm same i = nm same' i
  | 0, _ => rfl
  | i + 1, h => by
    have ih := nm_congr (same := same) (same' := same') (i := i) fun a b ha hb => h a b (by omega) (by omega)
    rcases fk_cases (fun k => same k i) i with ⟨h1, h2, h3⟩ | ⟨h1, h3⟩
    · rw [nm_hit h1 h2 h3, nm_hit (same := same') h1 (by rw [← h _ _ (by omega) (by omega)]; exact h2) (fun j hj => by rw [← h _ _ (by omega) (by omega)]; exact h3 j hj), ih]
    · rw [nm_new h3, nm_new (same := same') (fun j hj => by rw [← h _ _ (by omega) (by omega)]; exact h3 j hj), ih]

/-- the different numbers of a list, in the order of the first ones -/
def dst : List Int → List Int → List Int
  | acc, [] => acc
  | acc, z :: zs => if z ∈ acc then dst acc zs else dst (acc ++ [z]) zs
theorem dst_mem {z : Int} : ∀ {acc zs : List Int}, z ∈ dst acc zs ↔ z ∈ acc ∨ z ∈ zs
  | acc, [] => by simp [dst]
  | acc, y :: zs => by
    rw [dst]
    split
    · rename_i h
      rw [dst_mem, List.mem_cons]
      constructor
      · rintro (h1 | h1)
        · exact .inl h1
        · exact .inr (.inr h1)
      · rintro (h1 | rfl | h1)
        · exact .inl h1
        · exact .inl h
        · exact .inr h1
    · rw [dst_mem, List.mem_append, List.mem_singleton, List.mem_cons, or_assoc]
theorem dst_nodup : ∀ {acc zs : List Int}, acc.Nodup → (dst acc zs).Nodup
  | acc, [], h => h
  | acc, y :: zs, h => by
    rw [dst]
    split
    · exact dst_nodup h
    · rename_i hn
      refine dst_nodup ?_
      rw [List.nodup_append]
      refine ⟨h, by simp, fun a ha b hb => ?_⟩
      simp at hb
      rintro rfl
      rw [hb] at ha
      exact hn ha
theorem dst_app : ∀ {acc xs ys : List Int}, dst acc (xs ++ ys) = dst (dst acc xs) ys
  | acc, [], ys => rfl
  | acc, x :: xs, ys => by
    rw [List.cons_append, dst, dst]
    split
    · exact dst_app
    · exact dst_app
theorem dst_len : ∀ {acc zs : List Int}, (dst acc zs).length ≤ acc.length + zs.length
  | acc, [] => by simp [dst]
  | acc, y :: zs => by
    rw [dst]
    split
    · have := @dst_len acc zs; simp; omega
    · have := @dst_len (acc ++ [y]) zs; simp at this ⊢; omega
end Go.Proofs.Ytknknljkmkfmoaa
