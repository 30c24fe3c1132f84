/- What a search by generators reaches; classes of elements as numbers; no conditions beyond those that each theorem states. -/
import Derived.Test.YtknknljkmkfmoaaK4
import Derived.Test.YtknknljkmkfmoaaK2
namespace Go.Proofs.Ytknknljkmkfmoaa
open Go.RowKit
set_option maxRecDepth 100000

/-- what a search by generators on the left, on the right, or on both sides reaches -/
def Rel (E : List M) (l r : Bool) (f x : M) : Prop :=
  if l = true then (if r = true then JJ E f x else LL E f x) else (if r = true then RR E f x else f = x)
instance (E : List M) (l r : Bool) (f x : M) : Decidable (Rel E l r f x) := by unfold Rel; infer_instance
section
variable {gens E Q : List M} {n : Int} {l r : Bool} {f x g : M}
theorem closL (hm : Mnd n E) (hE : ∀ x, x ∈ E ↔ Mon gens n x) (hG : Pts n gens) (hQ : ∀ f ∈ Q, f ∈ E) (hc : ∀ f ∈ Q, ∀ g ∈ gens, mul g f ∈ Q) {x : M} (hx : Mon gens n x) : ∀ f ∈ Q, mul x f ∈ Q := by
  induction hx with
  | one => intro f hf; rw [hm.one1 (hQ f hf)]; exact hf
  | snoc h hg ih =>
    intro f hf
    rw [hm.assoc ((hE _).2 h) ((hE _).2 (Mon.gen hG hg))]
    exact ih _ (hc f hf _ hg)
theorem closR (hm : Mnd n E) (hE : ∀ x, x ∈ E ↔ Mon gens n x) (hQ : ∀ f ∈ Q, f ∈ E) (hc : ∀ f ∈ Q, ∀ g ∈ gens, mul f g ∈ Q) {x : M} (hx : Mon gens n x) : ∀ f ∈ Q, mul f x ∈ Q := by
  induction hx with
  | one => intro f hf; rw [hm.mul1 (hQ f hf)]; exact hf
  | snoc h hg ih =>
    intro f hf
    rw [← hm.assoc (hQ f hf) ((hE _).2 h)]
    exact hc _ (ih f hf) _ hg
theorem reach_all (hm : Mnd n E) (hE : ∀ x, x ∈ E ↔ Mon gens n x) (hG : Pts n gens) (hQ : ∀ f ∈ Q, f ∈ E) (hf : f ∈ Q)
    (hL : l = true → ∀ f ∈ Q, ∀ g ∈ gens, mul g f ∈ Q) (hR : r = true → ∀ f ∈ Q, ∀ g ∈ gens, mul f g ∈ Q) (h : Rel E l r f x) : x ∈ Q := by
  unfold Rel at h
  split at h
  · rename_i hl
    split at h
    · rename_i hr
      obtain ⟨a, ha, b, hb, rfl⟩ := h
      exact closL hm hE hG hQ (hL hl) ((hE _).1 ha) _ (closR hm hE hQ (hR hr) ((hE _).1 hb) _ hf)
    · obtain ⟨a, ha, rfl⟩ := h
      exact closL hm hE hG hQ (hL hl) ((hE _).1 ha) _ hf
  · split at h
    · rename_i hr
      obtain ⟨a, ha, rfl⟩ := h
      exact closR hm hE hQ (hR hr) ((hE _).1 ha) _ hf
    · exact h ▸ hf
theorem Rel.refl (hm : Mnd n E) (hf : f ∈ E) : Rel E l r f f := by
  unfold Rel
  split
  · split
    · exact JJ.refl hm hf
    · exact LL.refl hm hf
  · split
    · exact RR.refl hm hf
    · rfl
theorem Rel.left (hm : Mnd n E) (_ : f ∈ E) (hg : g ∈ E) (hl : l = true) (h : Rel E l r f x) : Rel E l r f (mul g x) := by
  unfold Rel at h ⊢
  rw [if_pos hl] at h ⊢
  split at h
  · rename_i hr
    obtain ⟨a, ha, b, hb, rfl⟩ := h
    rw [if_pos hr]
    exact ⟨_, hm.mulE _ hg _ ha, b, hb, hm.assoc hg ha⟩
  · rename_i hr
    obtain ⟨a, ha, rfl⟩ := h
    rw [if_neg hr]
    exact ⟨_, hm.mulE _ hg _ ha, hm.assoc hg ha⟩
theorem Rel.right (hm : Mnd n E) (hf : f ∈ E) (hg : g ∈ E) (hr : r = true) (h : Rel E l r f x) : Rel E l r f (mul x g) := by
  unfold Rel at h ⊢
  split at h
  · rename_i hl
    obtain ⟨a, ha, b, hb, rfl⟩ := h
    rw [if_pos hl, if_pos hr]
    exact ⟨a, ha, _, hm.mulE _ hb _ hg, by rw [hm.assoc ha (hm.mulE _ hf _ hb), hm.assoc hf hb]⟩
  · rename_i hl
    obtain ⟨a, ha, rfl⟩ := h
    rw [if_neg hl, if_pos hr]
    exact ⟨_, hm.mulE _ ha _ hg, (hm.assoc hf ha).symm⟩
theorem Rel.mem (hm : Mnd n E) (hf : f ∈ E) (h : Rel E l r f x) : x ∈ E := by
  unfold Rel at h
  split at h
  · split at h
    · exact h.mem hm hf
    · exact h.mem hm hf
  · split at h
    · exact h.mem hm hf
    · exact h ▸ hf
end

/-! ### numbers of classes -/
def relB (E : List M) (l r : Bool) (i k : Nat) : Bool := decide (Rel E l r (gm E i) (gm E k))
/-- the elements of two places are in each other's ideals -/
def bothB (E : List M) (l r : Bool) (i k : Nat) : Bool := relB E l r i k && relB E l r k i
/-- the numbers of the classes of a kind -/
def sameK (E : List M) (kind : Int) (i k : Nat) : Bool :=
  if kind = 0 then decide (eqL E (gm E i) (gm E k)) else if kind = 1 then decide (eqR E (gm E i) (gm E k)) else if kind = 2 then decide (eqH E (gm E i) (gm E k)) else decide (eqJ E (gm E i) (gm E k))
def clsK (E : List M) (kind : Int) : List Int := (nm (sameK E kind) E.length).1
def cntK (E : List M) (kind : Int) : Int := (nm (sameK E kind) E.length).2
theorem sameK_0 (E : List M) (i k : Nat) : sameK E 0 i k = decide (eqL E (gm E i) (gm E k)) := by simp [sameK]
theorem sameK_1 (E : List M) (i k : Nat) : sameK E 1 i k = decide (eqR E (gm E i) (gm E k)) := by simp [sameK]
theorem sameK_2 (E : List M) (i k : Nat) : sameK E 2 i k = decide (eqH E (gm E i) (gm E k)) := by simp [sameK]
theorem sameK_3 (E : List M) (i k : Nat) : sameK E 3 i k = decide (eqJ E (gm E i) (gm E k)) := by simp [sameK]
theorem bothB_L (E : List M) (i k : Nat) : bothB E true false i k = sameK E 0 i k := by
  rw [sameK_0, Bool.eq_iff_iff, decide_eq_true_eq]; simp [bothB, relB, Rel, eqL]
theorem bothB_R (E : List M) (i k : Nat) : bothB E false true i k = sameK E 1 i k := by
  rw [sameK_1, Bool.eq_iff_iff, decide_eq_true_eq]; simp [bothB, relB, Rel, eqR]
theorem bothB_J (E : List M) (i k : Nat) : bothB E true true i k = sameK E 3 i k := by
  rw [sameK_3, Bool.eq_iff_iff, decide_eq_true_eq]; simp [bothB, relB, Rel, eqJ]
section
variable {E : List M} {n : Int}
theorem sameK_refl (hm : Mnd n E) (kind : Int) {i : Nat} (hi : i < E.length) : sameK E kind i i = true := by
  have h := gm_mem hi
  unfold sameK
  split
  · exact decide_eq_true (eqL.refl hm h)
  · split
    · exact decide_eq_true (eqR.refl hm h)
    · split
      · exact decide_eq_true (eqH.refl hm h)
      · exact decide_eq_true (eqJ.refl hm h)
theorem sameK_symm (kind : Int) {i k : Nat} (h : sameK E kind i k = true) : sameK E kind k i = true := by
  unfold sameK at h ⊢
  split at h
  · rename_i e; rw [if_pos e]; exact decide_eq_true (of_decide_eq_true h).symm
  · rename_i e; rw [if_neg e]
    split at h
    · rename_i e; rw [if_pos e]; exact decide_eq_true (of_decide_eq_true h).symm
    · rename_i e; rw [if_neg e]
      split at h
      · rename_i e; rw [if_pos e]; exact decide_eq_true (of_decide_eq_true h).symm
      · rename_i e; rw [if_neg e]; exact decide_eq_true (of_decide_eq_true h).symm
theorem sameK_trans (hm : Mnd n E) (kind : Int) {i j k : Nat} (hi : i < E.length) (h1 : sameK E kind i j = true) (h2 : sameK E kind j k = true) : sameK E kind i k = true := by
  have hmi := gm_mem hi
  unfold sameK at h1 h2 ⊢
  by_cases e0 : kind = 0
  · rw [if_pos e0] at h1 h2 ⊢; exact decide_eq_true ((of_decide_eq_true h1).trans hm (of_decide_eq_true h2))
  · rw [if_neg e0] at h1 h2 ⊢
    by_cases e1 : kind = 1
    · rw [if_pos e1] at h1 h2 ⊢; exact decide_eq_true ((of_decide_eq_true h1).trans hm hmi (of_decide_eq_true h2))
    · rw [if_neg e1] at h1 h2 ⊢
      by_cases e2 : kind = 2
      · rw [if_pos e2] at h1 h2 ⊢; exact decide_eq_true ((of_decide_eq_true h1).trans hm hmi (of_decide_eq_true h2))
      · rw [if_neg e2] at h1 h2 ⊢; exact decide_eq_true ((of_decide_eq_true h1).trans hm hmi (of_decide_eq_true h2))
theorem clsK_length (E : List M) (kind : Int) : (clsK E kind).length = E.length := nm_length _ _
theorem clsK_eq (hm : Mnd n E) (kind : Int) {i k : Nat} (hi : i < E.length) (hk : k < E.length) : gi (clsK E kind) i = gi (clsK E kind) k ↔ sameK E kind i k = true :=
  nm_same (fun _ ha => sameK_refl hm kind ha) (fun _ _ _ _ h => sameK_symm kind h) (fun _ _ _ ha _ _ h1 h2 => sameK_trans hm kind ha h1 h2) E.length (Nat.le_refl _) i k hi hk
theorem clsK_val (E : List M) (kind : Int) {i : Nat} (hi : i < E.length) : 0 ≤ gi (clsK E kind) i ∧ gi (clsK E kind) i < cntK E kind := nm_val _ _ _ hi
theorem cntK_bd (E : List M) (kind : Int) : 0 ≤ cntK E kind ∧ cntK E kind ≤ E.length := nm_bd _ _
/-- the classes of the full kind by the numbers of the other two -/
theorem full_same (hm : Mnd n E) {i k : Nat} (hi : i < E.length) (hk : k < E.length) : (decide (gi (clsK E 0) i = gi (clsK E 0) k) && decide (gi (clsK E 1) i = gi (clsK E 1) k)) = sameK E 2 i k := by
  rw [Bool.eq_iff_iff]
  simp only [Bool.and_eq_true, decide_eq_true_eq]
  rw [clsK_eq hm 0 hi hk, clsK_eq hm 1 hi hk, sameK_0, sameK_1, sameK_2, decide_eq_true_eq, decide_eq_true_eq, decide_eq_true_eq]
  rfl
/-- equal ideals -/
theorem RR_set (hm : Mnd n E) {f g : M} (hf : f ∈ E) (hg : g ∈ E) : (∀ j, j < E.length → (RR E f (gm E j) ↔ RR E g (gm E j))) ↔ eqR E f g := by
  constructor
  · intro h
    have h1 := (h _ (ix_lt hg)); rw [gm_ix hg] at h1
    have h2 := (h _ (ix_lt hf)); rw [gm_ix hf] at h2
    exact ⟨h1.2 (RR.refl hm hg), h2.1 (RR.refl hm hf)⟩
  · intro h j _
    exact ⟨fun h1 => h.2.trans hm hg h1, fun h1 => h.1.trans hm hf h1⟩
theorem LL_set (hm : Mnd n E) {f g : M} (hf : f ∈ E) (hg : g ∈ E) : (∀ j, j < E.length → (LL E f (gm E j) ↔ LL E g (gm E j))) ↔ eqL E f g := by
  constructor
  · intro h
    have h1 := (h _ (ix_lt hg)); rw [gm_ix hg] at h1
    have h2 := (h _ (ix_lt hf)); rw [gm_ix hf] at h2
    exact ⟨h1.2 (LL.refl hm hg), h2.1 (LL.refl hm hf)⟩
  · intro h j _
    exact ⟨fun h1 => h.2.trans hm h1, fun h1 => h.1.trans hm h1⟩
theorem JJ_set (hm : Mnd n E) {f g : M} (hf : f ∈ E) (hg : g ∈ E) : (∀ j, j < E.length → (JJ E f (gm E j) ↔ JJ E g (gm E j))) ↔ eqJ E f g := by
  constructor
  · intro h
    have h1 := (h _ (ix_lt hg)); rw [gm_ix hg] at h1
    have h2 := (h _ (ix_lt hf)); rw [gm_ix hf] at h2
    exact ⟨h1.2 (JJ.refl hm hg), h2.1 (JJ.refl hm hf)⟩
  · intro h j _
    exact ⟨fun h1 => h.2.trans hm hg h1, fun h1 => h.1.trans hm hf h1⟩
/-- the ideal of both sides: first right, then left -/
theorem JJ_iff (hm : Mnd n E) {f g : M} (hf : f ∈ E) : JJ E f g ↔ ∃ k, k < E.length ∧ RR E f (gm E k) ∧ LL E (gm E k) g := by
  constructor
  · rintro ⟨x, hx, y, hy, rfl⟩
    have h := hm.mulE _ hf _ hy
    exact ⟨_, ix_lt h, by rw [gm_ix h]; exact ⟨y, hy, rfl⟩, by rw [gm_ix h]; exact ⟨x, hx, rfl⟩⟩
  · rintro ⟨k, hk, ⟨y, hy, e⟩, ⟨x, hx, rfl⟩⟩
    exact ⟨x, hx, y, hy, by rw [e]⟩
/-- a regular element has an inverse -/
theorem reg_iff (hm : Mnd n E) {f : M} (hf : f ∈ E) : (∃ g ∈ E, mul (mul f g) f = f) ↔ ∃ g ∈ E, mul (mul f g) f = f ∧ mul g (mul f g) = g := by
  constructor
  · rintro ⟨g, hg, e⟩
    have hfg := hm.mulE _ hf _ hg
    have hgf := hm.mulE _ hg _ hf
    have hgfg := hm.mulE _ hgf _ hg
    refine ⟨mul (mul g f) g, hgfg, ?_, ?_⟩
    · -- f g f g f = f
      have e1 : mul f (mul (mul g f) g) = mul f g := by
        rw [← hm.assoc hf hgf, ← hm.assoc hf hg, e]
      rw [e1, e]
    · have e1 : mul f (mul (mul g f) g) = mul f g := by
        rw [← hm.assoc hf hgf, ← hm.assoc hf hg, e]
      have e2 : mul (mul g f) (mul g f) = mul g f := by rw [hm.assoc hg hf, ← hm.assoc hf hg, e]
      rw [e1, hm.assoc hgf hg, ← hm.assoc hg hf, ← hm.assoc hgf hgf, e2]
  · rintro ⟨g, hg, e, _⟩
    exact ⟨g, hg, e⟩
end
/-- to commute with all elements is to commute with the generators -/
theorem central_iff {gens E : List M} {n : Int} (hm : Mnd n E) (hE : ∀ x, x ∈ E ↔ Mon gens n x) (hG : Pts n gens) {f : M} (hf : f ∈ E) : (∀ x ∈ E, mul f x = mul x f) ↔ ∀ g ∈ gens, mul f g = mul g f := by
  constructor
  · intro h g hg
    exact h g ((hE g).2 (Mon.gen hG hg))
  · intro h x hx
    have hx := (hE x).1 hx
    induction hx with
    | one => rw [hm.mul1 hf, hm.one1 hf]
    | snoc hy hg ih =>
      have hye := (hE _).2 hy
      have hge := (hE _).2 (Mon.gen hG hg)
      rw [← hm.assoc hf hye, ih hye, hm.assoc hye hf, h _ hg, ← hm.assoc hye hge]
end Go.Proofs.Ytknknljkmkfmoaa
