/- The monoid of a list of maps in plain words: the maps that are met, by lengths, with their words; the order of maps, sorted lists; no conditions beyond those that each theorem states. -/
import Derived.Test.YtknknljkmkfmoaaPow
import Derived.Test.YtknknljkmkfmoaaC11
import Derived.Test.YtknknljkmkfmoaaSlM
namespace Go.Proofs.Ytknknljkmkfmoaa
open Go.RowKit
set_option maxRecDepth 100000

/-! ### the order -/
theorem lessM_iff {f g : M} : lessM f g = true ↔ f.p < g.p ∨ (f.p = g.p ∧ ∃ k, k < 5 ∧ (∀ j, j < k → f.at j = g.at j) ∧ f.at k < g.at k) := by
  rw [lessM, decide_eq_true_eq]
  constructor
  · intro h
    rcases cmpM_cases f g with ⟨_, e⟩ | ⟨hp, e⟩ | ⟨k, hk, hp, hj, hn, e⟩
    · omega
    · rw [e] at h; exact .inl (cmpI_neg.1 h)
    · rw [e] at h; exact .inr ⟨hp, k, hk, hj, cmpI_neg.1 h⟩
  · rintro (h | ⟨hp, k, hk, hj, h⟩)
    · rw [cmpM_p (by omega)]; exact cmpI_neg.2 h
    · rw [cmpM_at hp hk hj (by omega)]; exact cmpI_neg.2 h
theorem lessM_trans {f g h : M} (h1 : lessM f g = true) (h2 : lessM g h = true) : lessM f h = true := by
  rw [lessM_iff] at h1 h2 ⊢
  rcases h1 with h1 | ⟨p1, k, hk, e1, l1⟩
  · rcases h2 with h2 | ⟨p2, _⟩
    · left; omega
    · left; omega
  · rcases h2 with h2 | ⟨p2, m, hm, e2, l2⟩
    · left; omega
    · right
      refine ⟨by omega, ?_⟩
      by_cases hkm : k < m
      · exact ⟨k, hk, fun j hj => by rw [e1 j hj, e2 j (by omega)], by rw [← e2 k hkm]; exact l1⟩
      · by_cases hmk : m < k
        · exact ⟨m, hm, fun j hj => by rw [e1 j (by omega), e2 j hj], by rw [e1 m hmk]; exact l2⟩
        · obtain rfl : k = m := by omega
          exact ⟨k, hk, fun j hj => by rw [e1 j hj, e2 j hj], by omega⟩
theorem lessM_irr (f : M) : lessM f f = false := by
  rw [lessM, cmpM_zero.2 rfl]; rfl
theorem lessM_tot {f g : M} (h : f ≠ g) : lessM f g = true ∨ lessM g f = true := by
  have h1 := cmpM_bd f g
  have h2 := cmpM_swap f g
  have h3 : cmpM f g ≠ 0 := fun e => h (cmpM_zero.1 e)
  simp only [lessM, decide_eq_true_eq]
  omega
theorem lessM_asym {f g : M} (h : lessM f g = true) : lessM g f = false := by
  have h2 := cmpM_swap f g
  rw [lessM, decide_eq_true_eq] at h
  rw [lessM, decide_eq_false_iff_not]
  omega
theorem lessM_ne' {f g : M} (h : lessM f g = true) : f ≠ g := by
  rintro rfl; rw [lessM_irr] at h; cases h

/-- strictly ascending -/
abbrev Asc (l : List M) : Prop := l.Pairwise fun f g => lessM f g = true
theorem Asc.nodup {l : List M} (h : Asc l) : l.Nodup := h.imp fun h => lessM_ne' h
theorem asc_ext : ∀ {a b : List M}, Asc a → Asc b → (∀ z, z ∈ a ↔ z ∈ b) → a = b
  | [], [], _, _, _ => rfl
  | [], y :: _, _, _, h => absurd ((h y).2 (by simp)) (by simp)
  | x :: _, [], _, _, h => absurd ((h x).1 (by simp)) (by simp)
  | x :: xs, y :: ys, ha, hb, h => by
    obtain ⟨ha1, ha2⟩ := List.pairwise_cons.1 ha
    obtain ⟨hb1, hb2⟩ := List.pairwise_cons.1 hb
    have hxy : x = y := by
      refine Classical.byContradiction fun hne => ?_
      have h1 : x ∈ ys := ((List.mem_cons.1 ((h x).1 (by simp))).resolve_left hne)
      have h2 : y ∈ xs := ((List.mem_cons.1 ((h y).2 (by simp))).resolve_left (Ne.symm hne))
      have := lessM_asym (ha1 y h2)
      rw [hb1 x h1] at this; cases this
    subst hxy
    congr 1
    refine asc_ext ha2 hb2 fun z => ⟨fun hz => ?_, fun hz => ?_⟩
    · exact ((List.mem_cons.1 ((h z).1 (by simp [hz])))).resolve_left (lessM_ne' (ha1 z hz)).symm
    · exact ((List.mem_cons.1 ((h z).2 (by simp [hz])))).resolve_left (lessM_ne' (hb1 z hz)).symm

/-- an ascending list with one map more, if it is not there -/
def insM (f : M) : List M → List M
  | [] => [f]
  | g :: gs => if lessM f g then f :: g :: gs else if f = g then g :: gs else g :: insM f gs
theorem insM_mem {f z : M} : ∀ {l : List M}, z ∈ insM f l ↔ z = f ∨ z ∈ l
  | [] => by simp [insM]
  | g :: gs => by
    rw [insM]
    split
    · simp
    · split
      · rename_i h; subst h; simp
      · rw [List.mem_cons, insM_mem, List.mem_cons]
        constructor
        · rintro (h | h | h)
          · exact .inr (.inl h)
          · exact .inl h
          · exact .inr (.inr h)
        · rintro (h | h | h)
          · exact .inr (.inl h)
          · exact .inl h
          · exact .inr (.inr h)
theorem insM_asc {f : M} : ∀ {l : List M}, Asc l → Asc (insM f l)
  | [], _ => by simp [insM]
  | g :: gs, h => by
    obtain ⟨h1, h2⟩ := List.pairwise_cons.1 h
    rw [insM]
    split
    · rename_i hl
      refine List.pairwise_cons.2 ⟨fun z hz => ?_, h⟩
      rcases List.mem_cons.1 hz with rfl | hz
      · exact hl
      · exact lessM_trans hl (h1 z hz)
    · split
      · exact h
      · rename_i hl hne
        refine List.pairwise_cons.2 ⟨fun z hz => ?_, insM_asc h2⟩
        rcases insM_mem.1 hz with rfl | hz
        · exact (lessM_tot hne).resolve_left hl
        · exact h1 z hz
theorem insM_length {f : M} : ∀ {l : List M}, f ∉ l → (insM f l).length = l.length + 1
  | [], _ => rfl
  | g :: gs, h => by
    rw [List.mem_cons, not_or] at h
    rw [insM]
    split
    · rfl
    · rw [if_neg h.1, List.length_cons, insM_length h.2, List.length_cons]
theorem insM_same {f : M} {l : List M} (h : Asc l) (hf : f ∈ l) : insM f l = l :=
  asc_ext (insM_asc h) h fun z => by rw [insM_mem]; exact ⟨fun h => h.elim (fun e => e ▸ hf) id, .inr⟩
/-- the maps of a list, ascending, each once -/
def sortM : List M → List M
  | [] => []
  | f :: l => insM f (sortM l)
theorem sortM_mem {z : M} : ∀ {l : List M}, z ∈ sortM l ↔ z ∈ l
  | [] => by simp [sortM]
  | f :: l => by rw [sortM, insM_mem, sortM_mem, List.mem_cons]
theorem sortM_asc : ∀ l : List M, Asc (sortM l)
  | [] => List.Pairwise.nil
  | _ :: l => insM_asc (sortM_asc l)
theorem sortM_length : ∀ {l : List M}, l.Nodup → (sortM l).length = l.length
  | [], _ => rfl
  | f :: l, h => by
    obtain ⟨h1, h2⟩ := List.nodup_cons.1 h
    rw [sortM, insM_length (fun hf => h1 (sortM_mem.1 hf)), sortM_length h2]; rfl
theorem sortM_eq {l a : List M} (ha : Asc a) (h : ∀ z, z ∈ a ↔ z ∈ l) : sortM l = a :=
  asc_ext (sortM_asc l) ha fun z => by rw [sortM_mem, h]
theorem sortM_snoc {l : List M} {f : M} : sortM (l ++ [f]) = insM f (sortM l) :=
  sortM_eq (insM_asc (sortM_asc l)) fun z => by rw [insM_mem, sortM_mem]; simp [or_comm]

/-! ### the search -/
/-- maps that are met, with their words -/
abbrev Met := List (M × List Int)
def rowC (f : M) (u : List Int) : List M → Nat → Met → Option Met
  | [], _, ps => some ps
  | g :: gs, k, ps =>
    if mul f g ∈ ps.map (·.1) then rowC f u gs (k + 1) ps
    else if ps.length = 300 then none
    else rowC f u gs (k + 1) (ps ++ [(mul f g, u ++ [(k : Int)])])
def pm (ps : Met) (i : Nat) : M × List Int := ps.getD i (M0, [])
theorem pm_eq {ps : Met} {i : Nat} (h : i < ps.length) : pm ps i = ps[i] := by simp [pm, List.getD, h]
theorem pm_mem {ps : Met} {i : Nat} (h : i < ps.length) : pm ps i ∈ ps := by rw [pm_eq h]; exact List.getElem_mem h
theorem pm_app {ps qs : Met} {i : Nat} (h : i < ps.length) : pm (ps ++ qs) i = pm ps i := by
  rw [pm_eq h, pm_eq (by simp; omega), List.getElem_append_left h]
def allC (gens : List M) : Nat → Nat → Met → Option Met
  | 0, _, ps => some ps
  | fuel + 1, i, ps => if i < ps.length then (rowC (pm ps i).1 (pm ps i).2 gens 0 ps).bind (allC gens fuel (i + 1)) else some ps
/-- the monoid of a list of maps of n points: what is met, or none if it is too large -/
def clo (gens : List M) (n : Int) : Option Met := allC gens 300 0 [(one n, [])]

theorem rowC_nil (f : M) (u : List Int) (k : Nat) (ps : Met) : rowC f u [] k ps = some ps := rfl
theorem rowC_in {f g : M} {u : List Int} {gs : List M} {k : Nat} {ps : Met} (h : mul f g ∈ ps.map (·.1)) : rowC f u (g :: gs) k ps = rowC f u gs (k + 1) ps := by rw [rowC, if_pos h]
theorem rowC_full {f g : M} {u : List Int} {gs : List M} {k : Nat} {ps : Met} (h : mul f g ∉ ps.map (·.1)) (hl : ps.length = 300) : rowC f u (g :: gs) k ps = none := by rw [rowC, if_neg h, if_pos hl]
theorem rowC_new {f g : M} {u : List Int} {gs : List M} {k : Nat} {ps : Met} (h : mul f g ∉ ps.map (·.1)) (hl : ps.length ≠ 300) : rowC f u (g :: gs) k ps = rowC f u gs (k + 1) (ps ++ [(mul f g, u ++ [(k : Int)])]) := by rw [rowC, if_neg h, if_neg hl]

/-- the monoid of maps that a list makes -/
inductive Mon (gens : List M) (n : Int) : M → Prop
  | one : Mon gens n (one n)
  | snoc {f g : M} : Mon gens n f → g ∈ gens → Mon gens n (mul f g)
/-- maps of n points -/
def Pts (n : Int) (gens : List M) : Prop := ∀ g ∈ gens, Valid g ∧ g.p = n

section
variable {gens : List M} {n : Int}
theorem Mon.ok (h1 : 1 ≤ n) (h5 : n ≤ 5) (hG : Pts n gens) {f : M} (h : Mon gens n f) : Valid f ∧ f.p = n := by
  induction h with
  | one => exact ⟨Valid.one h1 h5, rfl⟩
  | snoc _ hg ih => exact ⟨Valid.mul ih.1 (hG _ hg).1 (by rw [ih.2, (hG _ hg).2]), ih.2⟩
theorem Mon.gen (hG : Pts n gens) {g : M} (hg : g ∈ gens) : Mon gens n g := by
  have := Mon.snoc (n := n) (Mon.one) hg
  have e := one_mul' (hG g hg).1
  rw [(hG g hg).2] at e
  rwa [e] at this
theorem Mon.mul (h1 : 1 ≤ n) (h5 : n ≤ 5) (hG : Pts n gens) {f g : M} (hf : Mon gens n f) (hg : Mon gens n g) : Mon gens n (mul f g) := by
  induction hg with
  | one =>
    have := mul_one' (hf.ok h1 h5 hG).1
    rw [(hf.ok h1 h5 hG).2] at this
    rwa [this]
  | snoc h hg ih =>
    rw [← mul_assoc (hf.ok h1 h5 hG).1 (h.ok h1 h5 hG).1 (by rw [(hf.ok h1 h5 hG).2, (h.ok h1 h5 hG).2])]
    exact .snoc ih hg
theorem Mon.sub {gens' : List M} (hs : ∀ g ∈ gens, g ∈ gens') {f : M} (h : Mon gens n f) : Mon gens' n f := by
  induction h with
  | one => exact .one
  | snoc _ hg ih => exact .snoc ih (hs _ hg)

/-- the map of a word -/
def prd (gens : List M) (n : Int) (u : List Int) : M := u.foldl (fun f z => Go.Proofs.Ytknknljkmkfmoaa.mul f (gm gens z.toNat)) (Go.Proofs.Ytknknljkmkfmoaa.one n)
theorem prd_nil : prd gens n [] = Go.Proofs.Ytknknljkmkfmoaa.one n := rfl
theorem prd_snoc (u : List Int) (z : Int) : prd gens n (u ++ [z]) = Go.Proofs.Ytknknljkmkfmoaa.mul (prd gens n u) (gm gens z.toNat) := by simp [prd]

structure Good (gens : List M) (n : Int) (ps : Met) : Prop where
  nd : (ps.map (·.1)).Nodup
  len : ps.length ≤ 300
  mon : ∀ q ∈ ps, Mon gens n q.1
  wd : ∀ q ∈ ps, q.1 = prd gens n q.2 ∧ ∀ z ∈ q.2, 0 ≤ z ∧ z < gens.length
  fst : ∃ qs, ps = (Go.Proofs.Ytknknljkmkfmoaa.one n, []) :: qs ∧ ∀ q ∈ qs, q.2 ≠ []
  wl : ∀ i, i < ps.length → (pm ps i).2.length ≤ i

theorem Good.start (gens : List M) (n : Int) : Good gens n [(Go.Proofs.Ytknknljkmkfmoaa.one n, [])] :=
  ⟨by simp, by simp, by simp; exact .one, by simp [prd_nil], ⟨[], rfl, by simp⟩, fun i hi => by
    have e : i = 0 := by simp at hi; omega
    rw [e]
    simp [pm]⟩
theorem Good.add {ps : Met} (h : Good gens n ps) {f : M} {u : List Int} {k : Nat} (hf : (f, u) ∈ ps) (hk : k < gens.length) (hn : Go.Proofs.Ytknknljkmkfmoaa.mul f (gm gens k) ∉ ps.map (·.1)) (hl : ps.length ≠ 300) :
    Good gens n (ps ++ [(Go.Proofs.Ytknknljkmkfmoaa.mul f (gm gens k), u ++ [(k : Int)])]) := by
  have hg : gm gens k ∈ gens := by rw [gm_eq hk]; exact List.getElem_mem hk
  refine ⟨?_, by have := h.len; simp; omega, ?_, ?_, ?_, ?_⟩
  · rw [List.map_append, List.nodup_append]
    refine ⟨h.nd, by simp, fun a ha b hb => ?_⟩
    simp at hb
    subst hb
    rintro rfl
    exact hn ha
  · intro q hq
    rcases List.mem_append.1 hq with hq | hq
    · exact h.mon q hq
    · simp at hq; subst hq; exact .snoc (h.mon _ hf) hg
  · intro q hq
    rcases List.mem_append.1 hq with hq | hq
    · exact h.wd q hq
    · simp at hq; subst hq
      obtain ⟨e, hz⟩ := h.wd _ hf
      refine ⟨by rw [prd_snoc, ← e]; simp, fun z hz' => ?_⟩
      rcases List.mem_append.1 hz' with hz' | hz'
      · exact hz z hz'
      · simp at hz'; subst hz'; omega
  · obtain ⟨qs, e, hq⟩ := h.fst
    refine ⟨qs ++ [_], by rw [e]; rfl, fun q hq' => ?_⟩
    rcases List.mem_append.1 hq' with hq' | hq'
    · exact hq q hq'
    · simp at hq'; subst hq'; simp
  · intro i hi
    by_cases e : i = ps.length
    · subst e
      obtain ⟨a, ha, e2⟩ := List.getElem_of_mem hf
      have := h.wl a ha
      rw [pm_eq ha, e2] at this
      rw [pm_eq (by simp), List.getElem_append_right (by simp)]
      simp
      simp at this
      omega
    · have hi' : i < ps.length := by simp at hi; omega
      rw [pm_app hi']
      exact h.wl i hi'

theorem drop_gm {l : List M} {k : Nat} {g : M} {gs : List M} (h : l.drop k = g :: gs) : k < l.length ∧ g = gm l k ∧ l.drop (k + 1) = gs := by
  have hk : k < l.length := by
    rcases Nat.lt_or_ge k l.length with h' | h'
    · exact h'
    · rw [List.drop_eq_nil_of_le h'] at h; cases h
  rw [List.drop_eq_getElem_cons hk] at h
  injection h with h1 h2
  exact ⟨hk, by rw [gm_eq hk, h1], h2⟩
theorem drop_cons {l : List M} {k : Nat} (hk : k < l.length) : l.drop k = gm l k :: l.drop (k + 1) := by
  rw [List.drop_eq_getElem_cons hk, gm_eq hk]

theorem rowC_good {f : M} {u : List Int} : ∀ (gs : List M) (k : Nat) (ps : Met), gens.drop k = gs → Good gens n ps → (f, u) ∈ ps →
    (∀ ps', rowC f u gs k ps = some ps' → Good gens n ps' ∧ (∃ qs, ps' = ps ++ qs) ∧ ∀ g ∈ gs, Go.Proofs.Ytknknljkmkfmoaa.mul f g ∈ ps'.map (·.1)) ∧
    (rowC f u gs k ps = none → ∃ L : List M, L.Nodup ∧ L.length = 301 ∧ ∀ x ∈ L, Mon gens n x)
  | [], k, ps, _, h, _ => by
    refine ⟨fun ps' e => ?_, fun e => by cases e⟩
    injection e with e; subst e
    exact ⟨h, ⟨[], by simp⟩, by simp⟩
  | g :: gs, k, ps, hd, h, hf => by
    obtain ⟨hk, hg, hd'⟩ := drop_gm hd
    by_cases hin : Go.Proofs.Ytknknljkmkfmoaa.mul f g ∈ ps.map (·.1)
    · rw [rowC_in hin]
      obtain ⟨h1, h2⟩ := rowC_good gs (k + 1) ps hd' h hf
      refine ⟨fun ps' e => ?_, h2⟩
      obtain ⟨a, ⟨qs, rfl⟩, c⟩ := h1 ps' e
      refine ⟨a, ⟨qs, rfl⟩, fun x hx => ?_⟩
      rcases List.mem_cons.1 hx with rfl | hx
      · rw [List.map_append]; exact List.mem_append_left _ hin
      · exact c x hx
    · by_cases hl : ps.length = 300
      · rw [rowC_full hin hl]
        refine ⟨fun ps' e => (by cases e), fun _ => ⟨Go.Proofs.Ytknknljkmkfmoaa.mul f g :: ps.map (·.1), List.nodup_cons.2 ⟨hin, h.nd⟩, by simp [hl], fun x hx => ?_⟩⟩
        rcases List.mem_cons.1 hx with rfl | hx
        · refine .snoc (h.mon _ hf) ?_
          rw [hg, gm_eq hk]; exact List.getElem_mem hk
        · obtain ⟨q, hq, rfl⟩ := List.mem_map.1 hx
          exact h.mon q hq
      · rw [rowC_new hin hl]
        have h' := h.add hf hk (by rw [← hg]; exact hin) hl
        rw [← hg] at h'
        obtain ⟨h1, h2⟩ := rowC_good gs (k + 1) _ hd' h' (List.mem_append_left _ hf)
        refine ⟨fun ps' e => ?_, h2⟩
        obtain ⟨a, ⟨qs, rfl⟩, c⟩ := h1 ps' e
        refine ⟨a, ⟨_, List.append_assoc _ _ _⟩, fun x hx => ?_⟩
        rcases List.mem_cons.1 hx with rfl | hx
        · simp
        · exact c x hx

theorem allC_good : ∀ (fuel i : Nat) (ps : Met), i + fuel = 300 → Good gens n ps → i ≤ ps.length → (∀ j, j < i → ∀ g ∈ gens, Go.Proofs.Ytknknljkmkfmoaa.mul (pm ps j).1 g ∈ ps.map (·.1)) →
    (∀ ps', allC gens fuel i ps = some ps' → Good gens n ps' ∧ ∀ j, j < ps'.length → ∀ g ∈ gens, Go.Proofs.Ytknknljkmkfmoaa.mul (pm ps' j).1 g ∈ ps'.map (·.1)) ∧
    (allC gens fuel i ps = none → ∃ L : List M, L.Nodup ∧ L.length = 301 ∧ ∀ x ∈ L, Mon gens n x)
  | 0, i, ps, hi, h, hle, hc => by
    refine ⟨fun ps' e => ?_, fun e => by cases e⟩
    injection e with e; subst e
    have := h.len
    exact ⟨h, fun j hj => hc j (by omega)⟩
  | fuel + 1, i, ps, hi, h, hle, hc => by
    rw [allC]
    by_cases hlt : i < ps.length
    · rw [if_pos hlt]
      have hm : ((pm ps i).1, (pm ps i).2) ∈ ps := pm_mem hlt
      obtain ⟨h1, h2⟩ := rowC_good (f := (pm ps i).1) (u := (pm ps i).2) gens 0 ps rfl h hm
      cases hr : rowC (pm ps i).1 (pm ps i).2 gens 0 ps with
      | none => exact ⟨fun _ e => (by cases e), fun _ => h2 hr⟩
      | some ps1 =>
        obtain ⟨a, ⟨qs, rfl⟩, c⟩ := h1 ps1 hr
        refine allC_good fuel (i + 1) _ (by omega) a (by simp; omega) fun j hj g hg => ?_
        by_cases e : j = i
        · subst e; rw [pm_app hlt]; exact c g hg
        · rw [pm_app (by omega), List.map_append]; exact List.mem_append_left _ (hc j (by omega) g hg)
    · rw [if_neg hlt]
      refine ⟨fun ps' e => ?_, fun e => by cases e⟩
      injection e with e; subst e
      exact ⟨h, fun j hj => hc j (by omega)⟩

theorem clo_good {ps : Met} (h : clo gens n = some ps) : Good gens n ps ∧ ∀ j, j < ps.length → ∀ g ∈ gens, Go.Proofs.Ytknknljkmkfmoaa.mul (pm ps j).1 g ∈ ps.map (·.1) :=
  (allC_good 300 0 _ rfl (Good.start gens n) (by simp) fun j hj => absurd hj (by omega)).1 ps h
theorem clo_none (h : clo gens n = none) : ∃ L : List M, L.Nodup ∧ L.length = 301 ∧ ∀ x ∈ L, Mon gens n x :=
  (allC_good 300 0 _ rfl (Good.start gens n) (by simp) fun j hj => absurd hj (by omega)).2 h
theorem clo_mem {ps : Met} (h : clo gens n = some ps) {x : M} : x ∈ ps.map (·.1) ↔ Mon gens n x := by
  obtain ⟨hg, hc⟩ := clo_good h
  constructor
  · intro hx
    obtain ⟨q, hq, rfl⟩ := List.mem_map.1 hx
    exact hg.mon q hq
  · intro hx
    induction hx with
    | one => obtain ⟨qs, e, _⟩ := hg.fst; rw [e]; simp
    | snoc _ hg' ih =>
      obtain ⟨q, hq, e⟩ := List.mem_map.1 ih
      obtain ⟨j, hj, e'⟩ := List.getElem_of_mem hq
      have := hc j hj _ hg'
      rwa [pm_eq hj, e', e] at this

theorem nodup_sub_len {α : Type} [DecidableEq α] : ∀ {a b : List α}, a.Nodup → (∀ x ∈ a, x ∈ b) → a.length ≤ b.length
  | [], _, _, _ => by simp
  | x :: xs, b, h, hs => by
    obtain ⟨h1, h2⟩ := List.nodup_cons.1 h
    have hx : x ∈ b := hs x (by simp)
    have := nodup_sub_len (b := b.erase x) h2 fun y hy => (List.mem_erase_of_ne (fun e => h1 (by rw [← e]; exact hy))).2 (hs y (by simp [hy]))
    rw [List.length_erase_of_mem hx] at this
    have h0 : 0 < b.length := List.length_pos_of_mem hx
    simp; omega
/-- a part of the maps makes no more -/
theorem clo_sub {gens' : List M} {ps : Met} (h : clo gens' n = some ps) (hs : ∀ g ∈ gens, g ∈ gens') : ∃ ps', clo gens n = some ps' := by
  cases h' : clo gens n with
  | some ps' => exact ⟨ps', rfl⟩
  | none =>
    obtain ⟨L, h1, h2, h3⟩ := clo_none h'
    have h4 := nodup_sub_len h1 fun x hx => (clo_mem h).2 ((h3 x hx).sub hs)
    have h5 := (clo_good h).1.len
    rw [List.length_map] at h4
    omega
end

/-- the elements of a monoid, ascending -/
def els (gens : List M) (n : Int) : Option (List M) := (clo gens n).map fun ps => sortM (ps.map (·.1))
end Go.Proofs.Ytknknljkmkfmoaa
