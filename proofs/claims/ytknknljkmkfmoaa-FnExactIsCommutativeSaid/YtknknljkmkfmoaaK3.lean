/- The ideals and the classes of Green of a monoid of maps, in plain words; no program, no conditions beyond those that each theorem states. -/
import Derived.Test.YtknknljkmkfmoaaK1
namespace Go.Proofs.Ytknknljkmkfmoaa
open Go.RowKit
set_option maxRecDepth 100000

/-- an ascending list of maps of n points that is a monoid -/
structure Mnd (n : Int) (E : List M) : Prop where
  asc : Asc E
  ok : ∀ f ∈ E, Valid f ∧ f.p = n
  oneE : Go.Proofs.Ytknknljkmkfmoaa.one n ∈ E
  mulE : ∀ f ∈ E, ∀ g ∈ E, Go.Proofs.Ytknknljkmkfmoaa.mul f g ∈ E

section
variable {n : Int} {E : List M}
theorem Mnd.assoc (h : Mnd n E) {f g x : M} (hf : f ∈ E) (hg : g ∈ E) : mul (mul f g) x = mul f (mul g x) :=
  mul_assoc (h.ok f hf).1 (h.ok g hg).1 (by rw [(h.ok f hf).2, (h.ok g hg).2])
theorem Mnd.mul1 (h : Mnd n E) {f : M} (hf : f ∈ E) : mul f (Go.Proofs.Ytknknljkmkfmoaa.one n) = f := by
  have := mul_one' (h.ok f hf).1
  rwa [(h.ok f hf).2] at this
theorem Mnd.one1 (h : Mnd n E) {f : M} (hf : f ∈ E) : mul (Go.Proofs.Ytknknljkmkfmoaa.one n) f = f := by
  have := one_mul' (h.ok f hf).1
  rwa [(h.ok f hf).2] at this
theorem Mnd.pwE (h : Mnd n E) {f : M} (hf : f ∈ E) : ∀ k, pw f k ∈ E
  | 0 => by rw [pw_zero, (h.ok f hf).2]; exact h.oneE
  | k + 1 => by rw [pw_succ]; exact h.mulE _ (h.pwE hf k) _ hf

/-- g is a product with f on the left, f on the right, f in the middle -/
def RR (E : List M) (f g : M) : Prop := ∃ x ∈ E, mul f x = g
def LL (E : List M) (f g : M) : Prop := ∃ x ∈ E, mul x f = g
def JJ (E : List M) (f g : M) : Prop := ∃ x ∈ E, ∃ y ∈ E, mul x (mul f y) = g
instance (f g : M) : Decidable (RR E f g) := by unfold RR; infer_instance
instance (f g : M) : Decidable (LL E f g) := by unfold LL; infer_instance
instance (f g : M) : Decidable (JJ E f g) := by unfold JJ; infer_instance

theorem RR.mem (h : Mnd n E) {f g : M} (hf : f ∈ E) (hr : RR E f g) : g ∈ E := by
  obtain ⟨x, hx, rfl⟩ := hr; exact h.mulE _ hf _ hx
theorem LL.mem (h : Mnd n E) {f g : M} (hf : f ∈ E) (hr : LL E f g) : g ∈ E := by
  obtain ⟨x, hx, rfl⟩ := hr; exact h.mulE _ hx _ hf
theorem JJ.mem (h : Mnd n E) {f g : M} (hf : f ∈ E) (hr : JJ E f g) : g ∈ E := by
  obtain ⟨x, hx, y, hy, rfl⟩ := hr; exact h.mulE _ hx _ (h.mulE _ hf _ hy)
theorem RR.refl (h : Mnd n E) {f : M} (hf : f ∈ E) : RR E f f := ⟨_, h.oneE, h.mul1 hf⟩
theorem LL.refl (h : Mnd n E) {f : M} (hf : f ∈ E) : LL E f f := ⟨_, h.oneE, h.one1 hf⟩
theorem JJ.refl (h : Mnd n E) {f : M} (hf : f ∈ E) : JJ E f f := ⟨_, h.oneE, _, h.oneE, by rw [h.mul1 hf, h.one1 hf]⟩
theorem RR.trans (h : Mnd n E) {f g k : M} (hf : f ∈ E) (h1 : RR E f g) (h2 : RR E g k) : RR E f k := by
  obtain ⟨x, hx, rfl⟩ := h1; obtain ⟨y, hy, rfl⟩ := h2
  exact ⟨_, h.mulE _ hx _ hy, (h.assoc hf hx).symm⟩
theorem LL.trans (h : Mnd n E) {f g k : M} (h1 : LL E f g) (h2 : LL E g k) : LL E f k := by
  obtain ⟨x, hx, rfl⟩ := h1; obtain ⟨y, hy, rfl⟩ := h2
  exact ⟨_, h.mulE _ hy _ hx, h.assoc hy hx⟩
theorem JJ.of_R (h : Mnd n E) {f g : M} (hf : f ∈ E) (h1 : RR E f g) : JJ E f g := by
  obtain ⟨x, hx, rfl⟩ := h1
  exact ⟨_, h.oneE, x, hx, h.one1 (h.mulE _ hf _ hx)⟩
theorem JJ.of_L (h : Mnd n E) {f g : M} (hf : f ∈ E) (h1 : LL E f g) : JJ E f g := by
  obtain ⟨x, hx, rfl⟩ := h1
  exact ⟨x, hx, _, h.oneE, by rw [h.mul1 hf]⟩
theorem JJ.trans (h : Mnd n E) {f g k : M} (hf : f ∈ E) (h1 : JJ E f g) (h2 : JJ E g k) : JJ E f k := by
  obtain ⟨x, hx, y, hy, rfl⟩ := h1; obtain ⟨u, hu, v, hv, rfl⟩ := h2
  refine ⟨_, h.mulE _ hu _ hx, _, h.mulE _ hy _ hv, ?_⟩
  rw [h.assoc hu hx, h.assoc hx (h.mulE _ hf _ hy), h.assoc hf hy]

theorem iter_eq (h : Mnd n E) {x f c : M} (hx : x ∈ E) (hf : f ∈ E) (hc : c ∈ E) (e : mul x (mul f c) = f) : ∀ m, mul (pw x m) (mul f (pw c m)) = f
  | 0 => by rw [pw_zero, pw_zero, (h.ok x hx).2, (h.ok c hc).2, h.mul1 hf, h.one1 hf]
  | m + 1 => by
    have hc1 : pw c (m + 1) = mul c (pw c m) := by
      have := pw_add (h.ok c hc).1 1 m
      rw [pw_one (h.ok c hc).1, Nat.add_comm] at this
      exact this.symm
    have hfc := h.mulE _ hf _ hc
    rw [hc1, pw_succ, ← h.assoc hf hc, h.assoc (h.pwE hx m) hx, ← h.assoc hx hfc, e]
    exact iter_eq h hx hf hc e m
/-- an element that comes back from a product with something on its right comes back on the right -/
theorem stabR (h : Mnd n E) {f b : M} (hf : f ∈ E) (hb : b ∈ E) (hj : JJ E (mul f b) f) : RR E (mul f b) f := by
  obtain ⟨x, hx, y, hy, e⟩ := hj
  have hby := h.mulE _ hb _ hy
  rw [h.assoc hf hb] at e
  have e60 := iter_eq h hx hf hby e 60
  have hp := h.pwE hby 60
  have e2 : mul f (pw (mul b y) 60) = f := by
    have hid := idem_60 (h.ok _ hby).1
    calc mul f (pw (mul b y) 60) = mul (mul (pw x 60) (mul f (pw (mul b y) 60))) (pw (mul b y) 60) := by rw [e60]
      _ = mul (pw x 60) (mul f (pw (mul b y) 60)) := by rw [h.assoc (h.pwE hx 60) (h.mulE _ hf _ hp), h.assoc hf hp, hid]
      _ = f := e60
  have hc1 : pw (mul b y) 60 = mul (mul b y) (pw (mul b y) 59) := by
    have := pw_add (h.ok _ hby).1 1 59
    rw [pw_one (h.ok _ hby).1] at this
    exact this.symm
  refine ⟨mul y (pw (mul b y) 59), h.mulE _ hy _ (h.pwE hby 59), ?_⟩
  rw [h.assoc hf hb, ← h.assoc hb hy, ← hc1, e2]
theorem stabL (h : Mnd n E) {f b : M} (hf : f ∈ E) (hb : b ∈ E) (hj : JJ E (mul b f) f) : LL E (mul b f) f := by
  obtain ⟨x, hx, y, hy, e⟩ := hj
  have hxb := h.mulE _ hx _ hb
  have e' : mul (mul x b) (mul f y) = f := by rw [h.assoc hx hb, ← h.assoc hb hf]; exact e
  have e60 := iter_eq h hxb hf hy e' 60
  have hp := h.pwE hxb 60
  have e2 : mul (pw (mul x b) 60) f = f := by
    have hid := idem_60 (h.ok _ hxb).1
    calc mul (pw (mul x b) 60) f = mul (pw (mul x b) 60) (mul (pw (mul x b) 60) (mul f (pw y 60))) := by rw [e60]
      _ = mul (pw (mul x b) 60) (mul f (pw y 60)) := by rw [← h.assoc hp hp, hid]
      _ = f := e60
  have hc1 : pw (mul x b) 60 = mul (pw (mul x b) 59) (mul x b) := rfl
  refine ⟨mul (pw (mul x b) 59) x, h.mulE _ (h.pwE hxb 59) _ hx, ?_⟩
  rw [← h.assoc (h.mulE _ (h.pwE hxb 59) _ hx) hb, h.assoc (h.pwE hxb 59) hx, ← hc1, e2]

/-- the classes -/
def eqR (E : List M) (f g : M) : Prop := RR E f g ∧ RR E g f
def eqL (E : List M) (f g : M) : Prop := LL E f g ∧ LL E g f
def eqJ (E : List M) (f g : M) : Prop := JJ E f g ∧ JJ E g f
def eqH (E : List M) (f g : M) : Prop := eqL E f g ∧ eqR E f g
instance (f g : M) : Decidable (eqR E f g) := by unfold eqR; infer_instance
instance (f g : M) : Decidable (eqL E f g) := by unfold eqL; infer_instance
instance (f g : M) : Decidable (eqJ E f g) := by unfold eqJ; infer_instance
instance (f g : M) : Decidable (eqH E f g) := by unfold eqH; infer_instance
theorem eqR.symm {f g : M} (h : eqR E f g) : eqR E g f := ⟨h.2, h.1⟩
theorem eqL.symm {f g : M} (h : eqL E f g) : eqL E g f := ⟨h.2, h.1⟩
theorem eqJ.symm {f g : M} (h : eqJ E f g) : eqJ E g f := ⟨h.2, h.1⟩
theorem eqH.symm {f g : M} (h : eqH E f g) : eqH E g f := ⟨h.1.symm, h.2.symm⟩
theorem eqR.trans (h : Mnd n E) {f g k : M} (hf : f ∈ E) (h1 : eqR E f g) (h2 : eqR E g k) : eqR E f k :=
  ⟨h1.1.trans h hf h2.1, h2.2.trans h (h2.1.mem h (h1.1.mem h hf)) h1.2⟩
theorem eqL.trans (h : Mnd n E) {f g k : M} (h1 : eqL E f g) (h2 : eqL E g k) : eqL E f k := ⟨h1.1.trans h h2.1, h2.2.trans h h1.2⟩
theorem eqJ.trans (h : Mnd n E) {f g k : M} (hf : f ∈ E) (h1 : eqJ E f g) (h2 : eqJ E g k) : eqJ E f k :=
  ⟨h1.1.trans h hf h2.1, h2.2.trans h (h2.1.mem h (h1.1.mem h hf)) h1.2⟩
theorem eqH.trans (h : Mnd n E) {f g k : M} (hf : f ∈ E) (h1 : eqH E f g) (h2 : eqH E g k) : eqH E f k := ⟨h1.1.trans h h2.1, h1.2.trans h hf h2.2⟩
theorem eqR.refl (h : Mnd n E) {f : M} (hf : f ∈ E) : eqR E f f := ⟨RR.refl h hf, RR.refl h hf⟩
theorem eqL.refl (h : Mnd n E) {f : M} (hf : f ∈ E) : eqL E f f := ⟨LL.refl h hf, LL.refl h hf⟩
theorem eqJ.refl (h : Mnd n E) {f : M} (hf : f ∈ E) : eqJ E f f := ⟨JJ.refl h hf, JJ.refl h hf⟩
theorem eqH.refl (h : Mnd n E) {f : M} (hf : f ∈ E) : eqH E f f := ⟨eqL.refl h hf, eqR.refl h hf⟩
theorem eqR.toJ (h : Mnd n E) {f g : M} (hf : f ∈ E) (h1 : eqR E f g) : eqJ E f g := ⟨.of_R h hf h1.1, .of_R h (h1.1.mem h hf) h1.2⟩
theorem eqL.toJ (h : Mnd n E) {f g : M} (hf : f ∈ E) (h1 : eqL E f g) : eqJ E f g := ⟨.of_L h hf h1.1, .of_L h (h1.1.mem h hf) h1.2⟩

/-- two elements of one class of both sides have an element between them -/
theorem between (h : Mnd n E) {a b : M} (ha : a ∈ E) (hj : eqJ E a b) : ∃ c ∈ E, eqR E a c ∧ eqL E c b := by
  obtain ⟨⟨x, hx, y, hy, e⟩, hba⟩ := hj
  have hc := h.mulE _ ha _ hy
  have hb : b ∈ E := by rw [← e]; exact h.mulE _ hx _ hc
  have hLcb : LL E (mul a y) b := ⟨x, hx, e⟩
  have hRac : RR E a (mul a y) := ⟨y, hy, rfl⟩
  have hca : JJ E (mul a y) a := (JJ.of_L h hc hLcb).trans h hc hba
  have hbc : JJ E b (mul a y) := hba.trans h hb (.of_R h ha hRac)
  refine ⟨mul a y, hc, ⟨hRac, stabR h ha hy hca⟩, hLcb, ?_⟩
  rw [← e]
  rw [← e] at hbc
  exact stabL h hc hx hbc

/-- the size of the full class -/
def nH (E : List M) (a : M) : Nat := (E.filter fun x => decide (eqH E x a)).length
theorem nH_R (h : Mnd n E) {a b : M} (ha : a ∈ E) (hr : eqR E a b) : nH E a ≤ nH E b := by
  have hb := hr.1.mem h ha
  obtain ⟨⟨u, hu, eu⟩, ⟨v, hv, ev⟩⟩ := id hr
  have back : ∀ x ∈ E, eqL E x a → mul (mul x u) v = x := by
    rintro x hx ⟨_, s, hs, e⟩
    rw [← e, h.assoc hs ha, eu, h.assoc hs hb, ev]
  have hnd : ((E.filter fun x => decide (eqH E x a)).map fun x => mul x u).Nodup := by
    rw [List.nodup_iff_pairwise_ne, List.pairwise_map]
    refine List.Pairwise.imp_of_mem ?_ (h.asc.nodup.filter _)
    intro x y hx hy hne e
    rw [List.mem_filter, decide_eq_true_eq] at hx hy
    have h1 := back x hx.1 hx.2.1
    have h2 := back y hy.1 hy.2.1
    rw [e, h2] at h1
    exact hne h1.symm
  have := nodup_sub_len (b := E.filter fun x => decide (eqH E x b)) hnd (by
    intro z hz
    obtain ⟨x, hx, rfl⟩ := List.mem_map.1 hz
    rw [List.mem_filter, decide_eq_true_eq] at hx
    obtain ⟨hxE, hL, hR⟩ := hx
    have hxu := h.mulE _ hxE _ hu
    rw [List.mem_filter, decide_eq_true_eq]
    refine ⟨hxu, ⟨?_, ?_⟩, ?_⟩
    · obtain ⟨t, ht, e⟩ := hL.1
      exact ⟨t, ht, by rw [← h.assoc ht hxE, e, eu]⟩
    · obtain ⟨s, hs, e⟩ := hL.2
      exact ⟨s, hs, by rw [← eu, ← h.assoc hs ha, e]⟩
    · have hxx : eqR E (mul x u) x := ⟨⟨v, hv, back x hxE hL⟩, ⟨u, hu, rfl⟩⟩
      exact (hxx.trans h hxu hR).trans h hxu hr)
  simpa [nH] using this
theorem nH_L (h : Mnd n E) {a b : M} (ha : a ∈ E) (hl : eqL E a b) : nH E a ≤ nH E b := by
  have hb := hl.1.mem h ha
  obtain ⟨⟨u, hu, eu⟩, ⟨v, hv, ev⟩⟩ := id hl
  have back : ∀ x ∈ E, eqR E x a → mul v (mul u x) = x := by
    rintro x hx ⟨_, s, hs, e⟩
    rw [← e, ← h.assoc hu ha, eu, ← h.assoc hv hb, ev]
  have hnd : ((E.filter fun x => decide (eqH E x a)).map fun x => mul u x).Nodup := by
    rw [List.nodup_iff_pairwise_ne, List.pairwise_map]
    refine List.Pairwise.imp_of_mem ?_ (h.asc.nodup.filter _)
    intro x y hx hy hne e
    rw [List.mem_filter, decide_eq_true_eq] at hx hy
    have h1 := back x hx.1 hx.2.2
    have h2 := back y hy.1 hy.2.2
    rw [e, h2] at h1
    exact hne h1.symm
  have := nodup_sub_len (b := E.filter fun x => decide (eqH E x b)) hnd (by
    intro z hz
    obtain ⟨x, hx, rfl⟩ := List.mem_map.1 hz
    rw [List.mem_filter, decide_eq_true_eq] at hx
    obtain ⟨hxE, hL, hR⟩ := hx
    have hux := h.mulE _ hu _ hxE
    rw [List.mem_filter, decide_eq_true_eq]
    refine ⟨hux, ?_, ⟨?_, ?_⟩⟩
    · have hxx : eqL E (mul u x) x := ⟨⟨v, hv, back x hxE hR⟩, ⟨u, hu, rfl⟩⟩
      exact (hxx.trans h hL).trans h hl
    · obtain ⟨t, ht, e⟩ := hR.1
      exact ⟨t, ht, by rw [h.assoc hu hxE, e, eu]⟩
    · obtain ⟨s, hs, e⟩ := hR.2
      exact ⟨s, hs, by rw [← eu, h.assoc hu ha, e]⟩)
  simpa [nH] using this
theorem nH_J (h : Mnd n E) {a b : M} (ha : a ∈ E) (hj : eqJ E a b) : nH E a = nH E b := by
  obtain ⟨c, hc, hR, hL⟩ := between h ha hj
  have hb := hL.1.mem h hc
  have h1 := nH_R h ha hR
  have h2 := nH_R h hc hR.symm
  have h3 := nH_L h hc hL
  have h4 := nH_L h hb hL.symm
  omega
end

/-- a list parts by keys -/
theorem part_len {α β : Type} [DecidableEq β] (key : α → β) (m : Nat) : ∀ (ks : List β) (l : List α), ks.Nodup → (∀ x ∈ l, key x ∈ ks) → (∀ k ∈ ks, (l.filter fun x => decide (key x = k)).length = m) → l.length = ks.length * m
  | [], l, _, h, _ => by
    cases l with
    | nil => simp
    | cons x xs => exact absurd (h x (by simp)) (by simp)
  | k :: ks, l, hnd, h, hm => by
    obtain ⟨h1, h2⟩ := List.nodup_cons.1 hnd
    have e1 := hm k (by simp)
    have e2 := part_len key m ks (l.filter fun x => !decide (key x = k)) h2
      (fun x hx => by
        rw [List.mem_filter] at hx
        have := h x hx.1
        rcases List.mem_cons.1 this with e | e
        · simp [e] at hx
        · exact e)
      (fun j hj => by
        rw [List.filter_filter]
        rw [← hm j (by simp [hj])]
        congr 1
        refine List.filter_congr fun x _ => ?_
        by_cases e : key x = j
        · have : j ≠ k := fun e' => h1 (e' ▸ hj)
          simp [e, this]
        · simp [e])
    have e3 : l.length = (l.filter fun x => decide (key x = k)).length + (l.filter fun x => !decide (key x = k)).length := by
      clear e1 e2 h hm
      induction l with
      | nil => rfl
      | cons x xs ih =>
        rw [List.filter_cons, List.filter_cons]
        cases decide (key x = k) <;> simp <;> omega
    rw [List.length_cons, Nat.succ_mul]
    omega
end Go.Proofs.Ytknknljkmkfmoaa
