/- Contracts of the order of maps; the maps are valid where the theorems say so. The monoid of a list of maps in plain words: the maps that are met, by lengths, with their words; the order of maps, sorted lists; no conditions beyond those that each theorem states. Numbers of classes in plain words; no conditions beyond those that each theorem states. The ideals and the classes of Green of a monoid of maps, in plain words; no program, no conditions beyond those that each theorem states. Numbers of maps, places of elements, and what the elements of a monoid are, in plain words; no conditions beyond those that each theorem states. What a search by generators reaches; classes of elements as numbers; no conditions beyond those that each theorem states. The depth of the classes of both sides in plain words; no conditions beyond those that each theorem states. Sets of places as five words of 64 bits; the grid of a class; numbers of words by length; no conditions beyond those that each theorem states. The least generating part of a list in plain words: the least of all parts by number and order, and the first of the parts in order; for lists of at most six. Contracts of the statements' own helpers on lists of maps: sizes, copies, equality; the lists are shorter than 2^30. Contracts of the functions that list the images of a map; no conditions beyond those that each theorem states. -/
import Derived.Test.YtkbfocoaobiijaaGreatQG02
import Derived.Laws.BitsLemmas
import Derived.WalkSpells
set_option linter.unusedSimpArgs false
set_option linter.unusedVariables false
namespace Go.Proofs.YtkbfocoaobiijaaGreat
open Go.RowKit
set_option maxRecDepth 100000
theorem gi_imgs (f : M) {k n : Nat} (h : k < n) : gi (imgs f n) k = f.at k := by simp [gi, imgs, List.getD, h]
theorem cmpM_p {f g : M} (h : f.p ≠ g.p) : cmpM f g = cmpI f.p g.p := by rw [cmpM, or2, if_neg (cmpI_ne.2 h)]
theorem cmpM_e {f g : M} (h : f.p = g.p) : cmpM f g = cmpL (imgs f 5) (imgs g 5) := by rw [cmpM, or2, if_pos (cmpI_eq h)]
theorem cmpM_at {f g : M} {k : Nat} (h : f.p = g.p) (hk : k < 5) (he : ∀ j, j < k → f.at j = g.at j) (hn : f.at k ≠ g.at k) : cmpM f g = cmpI (f.at k) (g.at k) := by
  rw [cmpM_e h, cmpL_at (k := k) (by rw [imgs_length]; exact hk) (by rw [imgs_length]; exact hk) (fun j hj => by rw [gi_imgs f (by omega), gi_imgs g (by omega)]; exact he j hj) (by rw [gi_imgs f hk, gi_imgs g hk]; exact hn), gi_imgs f hk, gi_imgs g hk]
theorem cmpM_same {f g : M} (h : f.p = g.p) (he : ∀ j, j < 5 → f.at j = g.at j) : cmpM f g = 0 := by
  rw [cmpM_e h, cmpL_pre fun j h1 _ => by rw [imgs_length] at h1; rw [gi_imgs f h1, gi_imgs g h1]; exact he j h1, imgs_length, imgs_length, cmpI_eq rfl]
theorem cmpM_cases (f g : M) : (f = g ∧ cmpM f g = 0) ∨ (f.p ≠ g.p ∧ cmpM f g = cmpI f.p g.p) ∨ ∃ k, k < 5 ∧ f.p = g.p ∧ (∀ j, j < k → f.at j = g.at j) ∧ f.at k ≠ g.at k ∧ cmpM f g = cmpI (f.at k) (g.at k) := by
  by_cases hp : f.p = g.p
  · by_cases he : ∀ j, j < 5 → f.at j = g.at j
    · exact .inl ⟨M.ext5 hp he, cmpM_same hp he⟩
    · have : ∃ k, k < 5 ∧ f.at k ≠ g.at k := by
        refine Classical.byContradiction fun hc => he fun j hj => Classical.byContradiction fun hne => hc ⟨j, hj, hne⟩
      obtain ⟨k, ⟨hk, hne⟩, hmin⟩ := exists_least this
      have hj : ∀ j, j < k → f.at j = g.at j := fun j hj => Classical.byContradiction fun hc => by have := hmin j ⟨by omega, hc⟩; omega
      exact .inr (.inr ⟨k, hk, hp, hj, hne, cmpM_at hp hk hj hne⟩)
  · exact .inr (.inl ⟨hp, cmpM_p hp⟩)
theorem cmpM_swap (f g : M) : cmpM g f = - cmpM f g := by
  rcases cmpM_cases f g with ⟨rfl, h⟩ | ⟨hp, h⟩ | ⟨k, hk, hp, he, hn, h⟩
  · rw [h]; rfl
  · rw [h, cmpM_p (Ne.symm hp), cmpI_swap]
  · rw [h, cmpM_at hp.symm hk (fun j hj => (he j hj).symm) (Ne.symm hn), cmpI_swap]
theorem cmpM_bd (f g : M) : -1 ≤ cmpM f g ∧ cmpM f g ≤ 1 := by
  rcases cmpM_cases f g with ⟨rfl, h⟩ | ⟨hp, h⟩ | ⟨k, hk, hp, he, hn, h⟩
  · rw [h]; omega
  · rw [h]; exact cmpI_bd _ _
  · rw [h]; exact cmpI_bd _ _
theorem cmpM_zero {f g : M} : cmpM f g = 0 ↔ f = g := by
  constructor
  · intro h0
    rcases cmpM_cases f g with ⟨rfl, h⟩ | ⟨hp, h⟩ | ⟨k, hk, hp, he, hn, h⟩
    · rfl
    · rw [h] at h0; exact absurd h0 (cmpI_ne.2 hp)
    · rw [h] at h0; exact absurd h0 (cmpI_ne.2 hn)
  · rintro rfl; exact cmpM_same rfl fun _ _ => rfl
def lessM (f g : M) : Bool := decide (cmpM f g = -1)
theorem lessM_ne {f g : M} (h : f.p ≠ g.p) : lessM f g = decide (f.p < g.p) := by
  rw [lessM, cmpM_p h, Bool.eq_iff_iff]; simp [cmpI_neg]
theorem lessM_at {f g : M} {k : Nat} (h : f.p = g.p) (hk : k < 5) (he : ∀ j, j < k → f.at j = g.at j) (hn : f.at k ≠ g.at k) : lessM f g = decide (f.at k < g.at k) := by
  rw [lessM, cmpM_at h hk he hn, Bool.eq_iff_iff]; simp [cmpI_neg]
theorem lessM_same {f g : M} (hf : Valid f) (hg : Valid g) (h : f.p = g.p) {k : Nat} (hk : ¬ (k : Int) < f.p) (he : ∀ j, j < k → f.at j = g.at j) : lessM f g = false := by
  rw [lessM, cmpM_same h]
  · rfl
  · intro j hj
    by_cases hj' : j < k
    · exact he j hj'
    · rw [hf.out j hj (by omega), hg.out j hj (by omega)]
theorem l01Less_any (f g : M) (w : World) (hf : Valid f) (hg : Valid g) :
    Calls Tryz.prog 199 #[.agg (mc f), .agg (mc g)] w fun e w' => e = .returned (.bool (lessM f g)) ∧ Below w.heap.size w w' := by
  have hp1 := hf.p1
  have hp5 := hf.p5
  by_cases hp : f.p = g.p
  · have hpb : (f.p != g.p) = false := by simp [hp]
    have Hp := Lib.hid hp
    clear hp
    go_enter Tryz.func199, Tryz.ntmps199
    go_wp2
    go_loopw [5] (fun i wr => ∃ k : Nat, (k : Int) ≤ f.p ∧ i = .int .i64 k ∧ Hid (∀ j, j < k → f.at j = g.at j) ∧ Blk wr w.heap.size 31 (mc f) ∧ Blk wr (w.heap.size + 1) 31 (mc g) ∧ Below w.heap.size w wr) (fun i _ => 5 - (intOf i).toNat)
    case atStart => exact ⟨0, by omega, rfl, fun j hj => absurd hj (by omega), (Blk.new _ _ _).alloc _, Blk.new' _ _ _ (by simp), by (repeat (first | with_reducible assumption | with_reducible exact Below.refl _ _ | with_reducible refine Below.setCell ?_ (by first | omega | (simp <;> omega)) _ | with_reducible refine Below.alloc ?_ (by first | omega | (simp <;> omega)) _ | with_reducible refine Below.drew ?_ | with_reducible refine Below.drewN ?_ _))⟩
    case round =>
      obtain ⟨k, hk, rfl, hs, hB1, hB2, hbel⟩ := hrel
      have c0 : wr.cell? ⟨w.heap.size, 0, none⟩ = some (I f.p) := hB1.cell 0
      by_cases hlt : (k : Int) < f.p
      · have hk5 : k < 5 := by omega
        have c1 := hB1.at_ hk5
        have c2 := hB2.at_ hk5
        have h0 : (0 : Int) ≤ (k : Int) := by omega
        have h1 : (k : Int) < 5 := by omega
        by_cases he : f.at k = g.at k
        · have heb : (f.at k != g.at k) = false := by simp [he]
          have Hs : Hid (∀ j, j < k + 1 → f.at j = g.at j) := by
            intro j hj; by_cases e : j = k
            · subst e; exact he
            · exact hs.out j (by omega)
          clear he
          go_wp2_with fail
          go_quiet (fail)
          go_wp2
          go_roundw
          case rel => exact ⟨k + 1, by omega, by go_num, Hs.out, hB1.drewN _, hB2.drewN _, hbel.drewN _⟩
          case measure => simp [intOf]; omega
        · have heb : (f.at k != g.at k) = true := by simp [he]
          have Hs : Hid (lessM f g = decide (f.at k < g.at k)) := lessM_at Hp.out hk5 hs.out he
          clear he
          cases hd : decide (f.at k < g.at k)
          all_goals
            go_wp2_with fail
            go_quiet (fail)
            go_wp2_with fail
            replace hB1 := hB1.drewN nq
            replace hB2 := hB2.drewN nq
            replace hbel := hbel.drewN nq
            clear c0 c1 c2
            generalize wr.drewN nq = w9 at hB1 hB2 hbel ⊢
            have c1 := hB1.at_ hk5
            have c2 := hB2.at_ hk5
            go_quiet (fail)
            go_wp2
            go_ret
            exact ⟨ret_bool (Hs.out.trans hd).symm, hbel.drewN _⟩
      · have Hs : Hid (lessM f g = false) := lessM_same hf hg Hp.out hlt hs.out
        go_wp2
        go_ret
        exact ⟨ret_bool Hs.out.symm, hbel⟩
  · have hpb : (f.p != g.p) = true := by simp [hp]
    have Hs := Lib.hid (lessM_ne hp)
    clear hp
    cases hd : decide (f.p < g.p)
    all_goals
      go_enter Tryz.func199, Tryz.ntmps199
      go_wp2
      go_ret
      exact ⟨ret_bool (Hs.out.trans hd).symm, by (repeat (first | with_reducible assumption | with_reducible exact Below.refl _ _ | with_reducible refine Below.setCell ?_ (by first | omega | (simp <;> omega)) _ | with_reducible refine Below.alloc ?_ (by first | omega | (simp <;> omega)) _ | with_reducible refine Below.drew ?_ | with_reducible refine Below.drewN ?_ _))⟩
end Go.Proofs.YtkbfocoaobiijaaGreat

namespace Go.Proofs.YtkbfocoaobiijaaGreat
open Go.RowKit
set_option maxRecDepth 100000
/-! ### the order -/
theorem lessM_iff {f g : M} : lessM f g = true ↔ f.p < g.p ∨ (f.p = g.p ∧ ∃ k, k < 5 ∧ (∀ j, j < k → f.at j = g.at j) ∧ f.at k < g.at k) := by
  rw [lessM, decide_eq_true_eq]
  constructor
  · intro h
    rcases cmpM_cases f g with ⟨_, e⟩ | ⟨hp, e⟩ | ⟨k, hk, hp, hj, hn, e⟩
    · omega
    · rw [e] at h; exact .inl (cmpI_neg.1 h)
    · rw [e] at h; exact .inr ⟨hp, k, hk, hj, cmpI_neg.1 h⟩
  · rintro (h | ⟨hp, k, hk, hj, h⟩)
    · rw [cmpM_p (by omega)]; exact cmpI_neg.2 h
    · rw [cmpM_at hp hk hj (by omega)]; exact cmpI_neg.2 h
theorem lessM_trans {f g h : M} (h1 : lessM f g = true) (h2 : lessM g h = true) : lessM f h = true := by
  rw [lessM_iff] at h1 h2 ⊢
  rcases h1 with h1 | ⟨p1, k, hk, e1, l1⟩
  · rcases h2 with h2 | ⟨p2, _⟩
    · left; omega
    · left; omega
  · rcases h2 with h2 | ⟨p2, m, hm, e2, l2⟩
    · left; omega
    · right
      refine ⟨by omega, ?_⟩
      by_cases hkm : k < m
      · exact ⟨k, hk, fun j hj => by rw [e1 j hj, e2 j (by omega)], by rw [← e2 k hkm]; exact l1⟩
      · by_cases hmk : m < k
        · exact ⟨m, hm, fun j hj => by rw [e1 j (by omega), e2 j hj], by rw [e1 m hmk]; exact l2⟩
        · obtain rfl : k = m := by omega
          exact ⟨k, hk, fun j hj => by rw [e1 j hj, e2 j hj], by omega⟩
theorem lessM_irr (f : M) : lessM f f = false := by
  rw [lessM, cmpM_zero.2 rfl]; rfl
theorem lessM_tot {f g : M} (h : f ≠ g) : lessM f g = true ∨ lessM g f = true := by
  have h1 := cmpM_bd f g
  have h2 := cmpM_swap f g
  have h3 : cmpM f g ≠ 0 := fun e => h (cmpM_zero.1 e)
  simp only [lessM, decide_eq_true_eq]
  omega
theorem lessM_asym {f g : M} (h : lessM f g = true) : lessM g f = false := by
  have h2 := cmpM_swap f g
  rw [lessM, decide_eq_true_eq] at h
  rw [lessM, decide_eq_false_iff_not]
  omega
theorem lessM_ne' {f g : M} (h : lessM f g = true) : f ≠ g := by
  rintro rfl; rw [lessM_irr] at h; cases h
abbrev Asc (l : List M) : Prop := l.Pairwise fun f g => lessM f g = true
theorem Asc.nodup {l : List M} (h : Asc l) : l.Nodup := h.imp fun h => lessM_ne' h
theorem asc_ext : ∀ {a b : List M}, Asc a → Asc b → (∀ z, z ∈ a ↔ z ∈ b) → a = b
  | [], [], _, _, _ => rfl
  | [], y :: _, _, _, h => absurd ((h y).2 (by simp)) (by simp)
  | x :: _, [], _, _, h => absurd ((h x).1 (by simp)) (by simp)
  | x :: xs, y :: ys, ha, hb, h => by
    obtain ⟨ha1, ha2⟩ := List.pairwise_cons.1 ha
    obtain ⟨hb1, hb2⟩ := List.pairwise_cons.1 hb
    have hxy : x = y := by
      refine Classical.byContradiction fun hne => ?_
      have h1 : x ∈ ys := ((List.mem_cons.1 ((h x).1 (by simp))).resolve_left hne)
      have h2 : y ∈ xs := ((List.mem_cons.1 ((h y).2 (by simp))).resolve_left (Ne.symm hne))
      have := lessM_asym (ha1 y h2)
      rw [hb1 x h1] at this; cases this
    subst hxy
    congr 1
    refine asc_ext ha2 hb2 fun z => ⟨fun hz => ?_, fun hz => ?_⟩
    · exact ((List.mem_cons.1 ((h z).1 (by simp [hz])))).resolve_left (lessM_ne' (ha1 z hz)).symm
    · exact ((List.mem_cons.1 ((h z).2 (by simp [hz])))).resolve_left (lessM_ne' (hb1 z hz)).symm
def insM (f : M) : List M → List M
  | [] => [f]
  | g :: gs => if lessM f g then f :: g :: gs else if f = g then g :: gs else g :: insM f gs
theorem insM_mem {f z : M} : ∀ {l : List M}, z ∈ insM f l ↔ z = f ∨ z ∈ l
  | [] => by simp [insM]
  | g :: gs => by
    rw [insM]
    split
    · simp
    · split
      · rename_i h; subst h; simp
      · rw [List.mem_cons, insM_mem, List.mem_cons]
        constructor
        · rintro (h | h | h)
          · exact .inr (.inl h)
          · exact .inl h
          · exact .inr (.inr h)
        · rintro (h | h | h)
          · exact .inr (.inl h)
          · exact .inl h
          · exact .inr (.inr h)
theorem insM_asc {f : M} : ∀ {l : List M}, Asc l → Asc (insM f l)
  | [], _ => by simp [insM]
  | g :: gs, h => by
    obtain ⟨h1, h2⟩ := List.pairwise_cons.1 h
    rw [insM]
    split
    · rename_i hl
      refine List.pairwise_cons.2 ⟨fun z hz => ?_, h⟩
      rcases List.mem_cons.1 hz with rfl | hz
      · exact hl
      · exact lessM_trans hl (h1 z hz)
    · split
      · exact h
      · rename_i hl hne
        refine List.pairwise_cons.2 ⟨fun z hz => ?_, insM_asc h2⟩
        rcases insM_mem.1 hz with rfl | hz
        · exact (lessM_tot hne).resolve_left hl
        · exact h1 z hz
theorem insM_length {f : M} : ∀ {l : List M}, f ∉ l → (insM f l).length = l.length + 1
  | [], _ => rfl
  | g :: gs, h => by
    rw [List.mem_cons, not_or] at h
    rw [insM]
    split
    · rfl
    · rw [if_neg h.1, List.length_cons, insM_length h.2, List.length_cons]
def sortM : List M → List M
  | [] => []
  | f :: l => insM f (sortM l)
theorem sortM_mem {z : M} : ∀ {l : List M}, z ∈ sortM l ↔ z ∈ l
  | [] => by simp [sortM]
  | f :: l => by rw [sortM, insM_mem, sortM_mem, List.mem_cons]
theorem sortM_asc : ∀ l : List M, Asc (sortM l)
  | [] => List.Pairwise.nil
  | _ :: l => insM_asc (sortM_asc l)
theorem sortM_length : ∀ {l : List M}, l.Nodup → (sortM l).length = l.length
  | [], _ => rfl
  | f :: l, h => by
    obtain ⟨h1, h2⟩ := List.nodup_cons.1 h
    rw [sortM, insM_length (fun hf => h1 (sortM_mem.1 hf)), sortM_length h2]; rfl
theorem sortM_eq {l a : List M} (ha : Asc a) (h : ∀ z, z ∈ a ↔ z ∈ l) : sortM l = a :=
  asc_ext (sortM_asc l) ha fun z => by rw [sortM_mem, h]
theorem sortM_snoc {l : List M} {f : M} : sortM (l ++ [f]) = insM f (sortM l) :=
  sortM_eq (insM_asc (sortM_asc l)) fun z => by rw [insM_mem, sortM_mem]; simp [or_comm]
/-! ### the search -/
abbrev Met := List (M × List Int)
def rowC (f : M) (u : List Int) : List M → Nat → Met → Option Met
  | [], _, ps => some ps
  | g :: gs, k, ps =>
    if mul f g ∈ ps.map (·.1) then rowC f u gs (k + 1) ps
    else if ps.length = 300 then none
    else rowC f u gs (k + 1) (ps ++ [(mul f g, u ++ [(k : Int)])])
def pm (ps : Met) (i : Nat) : M × List Int := ps.getD i (M0, [])
theorem pm_eq {ps : Met} {i : Nat} (h : i < ps.length) : pm ps i = ps[i] := by simp [pm, List.getD, h]
theorem pm_mem {ps : Met} {i : Nat} (h : i < ps.length) : pm ps i ∈ ps := by rw [pm_eq h]; exact List.getElem_mem h
theorem pm_app {ps qs : Met} {i : Nat} (h : i < ps.length) : pm (ps ++ qs) i = pm ps i := by
  rw [pm_eq h, pm_eq (by simp; omega), List.getElem_append_left h]
def allC (gens : List M) : Nat → Nat → Met → Option Met
  | 0, _, ps => some ps
  | fuel + 1, i, ps => if i < ps.length then (rowC (pm ps i).1 (pm ps i).2 gens 0 ps).bind (allC gens fuel (i + 1)) else some ps
def clo (gens : List M) (n : Int) : Option Met := allC gens 300 0 [(one n, [])]
theorem rowC_nil (f : M) (u : List Int) (k : Nat) (ps : Met) : rowC f u [] k ps = some ps := rfl
theorem rowC_in {f g : M} {u : List Int} {gs : List M} {k : Nat} {ps : Met} (h : mul f g ∈ ps.map (·.1)) : rowC f u (g :: gs) k ps = rowC f u gs (k + 1) ps := by rw [rowC, if_pos h]
theorem rowC_full {f g : M} {u : List Int} {gs : List M} {k : Nat} {ps : Met} (h : mul f g ∉ ps.map (·.1)) (hl : ps.length = 300) : rowC f u (g :: gs) k ps = none := by rw [rowC, if_neg h, if_pos hl]
theorem rowC_new {f g : M} {u : List Int} {gs : List M} {k : Nat} {ps : Met} (h : mul f g ∉ ps.map (·.1)) (hl : ps.length ≠ 300) : rowC f u (g :: gs) k ps = rowC f u gs (k + 1) (ps ++ [(mul f g, u ++ [(k : Int)])]) := by rw [rowC, if_neg h, if_neg hl]
inductive Mon (gens : List M) (n : Int) : M → Prop
  | one : Mon gens n (one n)
  | snoc {f g : M} : Mon gens n f → g ∈ gens → Mon gens n (mul f g)
def Pts (n : Int) (gens : List M) : Prop := ∀ g ∈ gens, Valid g ∧ g.p = n
section
variable {gens : List M} {n : Int}
theorem Mon.ok (h1 : 1 ≤ n) (h5 : n ≤ 5) (hG : Pts n gens) {f : M} (h : Mon gens n f) : Valid f ∧ f.p = n := by
  induction h with
  | one => exact ⟨Valid.one h1 h5, rfl⟩
  | snoc _ hg ih => exact ⟨Valid.mul ih.1 (hG _ hg).1 (by rw [ih.2, (hG _ hg).2]), ih.2⟩
theorem Mon.gen (hG : Pts n gens) {g : M} (hg : g ∈ gens) : Mon gens n g := by
  have := Mon.snoc (n := n) (Mon.one) hg
  have e := one_mul' (hG g hg).1
  rw [(hG g hg).2] at e
  rwa [e] at this
theorem Mon.mul (h1 : 1 ≤ n) (h5 : n ≤ 5) (hG : Pts n gens) {f g : M} (hf : Mon gens n f) (hg : Mon gens n g) : Mon gens n (mul f g) := by
  induction hg with
  | one =>
    have := mul_one' (hf.ok h1 h5 hG).1
    rw [(hf.ok h1 h5 hG).2] at this
    rwa [this]
  | snoc h hg ih =>
    rw [← mul_assoc (hf.ok h1 h5 hG).1 (h.ok h1 h5 hG).1 (by rw [(hf.ok h1 h5 hG).2, (h.ok h1 h5 hG).2])]
    exact .snoc ih hg
theorem Mon.sub {gens' : List M} (hs : ∀ g ∈ gens, g ∈ gens') {f : M} (h : Mon gens n f) : Mon gens' n f := by
  induction h with
  | one => exact .one
  | snoc _ hg ih => exact .snoc ih (hs _ hg)
def prd (gens : List M) (n : Int) (u : List Int) : M := u.foldl (fun f z => Go.Proofs.YtkbfocoaobiijaaGreat.mul f (gm gens z.toNat)) (Go.Proofs.YtkbfocoaobiijaaGreat.one n)
theorem prd_nil : prd gens n [] = Go.Proofs.YtkbfocoaobiijaaGreat.one n := rfl
theorem prd_snoc (u : List Int) (z : Int) : prd gens n (u ++ [z]) = Go.Proofs.YtkbfocoaobiijaaGreat.mul (prd gens n u) (gm gens z.toNat) := by simp [prd]
structure Good (gens : List M) (n : Int) (ps : Met) : Prop where
  nd : (ps.map (·.1)).Nodup
  len : ps.length ≤ 300
  mon : ∀ q ∈ ps, Mon gens n q.1
  wd : ∀ q ∈ ps, q.1 = prd gens n q.2 ∧ ∀ z ∈ q.2, 0 ≤ z ∧ z < gens.length
  fst : ∃ qs, ps = (Go.Proofs.YtkbfocoaobiijaaGreat.one n, []) :: qs ∧ ∀ q ∈ qs, q.2 ≠ []
  wl : ∀ i, i < ps.length → (pm ps i).2.length ≤ i
theorem Good.start (gens : List M) (n : Int) : Good gens n [(Go.Proofs.YtkbfocoaobiijaaGreat.one n, [])] :=
  ⟨by simp, by simp, by simp; exact .one, by simp [prd_nil], ⟨[], rfl, by simp⟩, fun i hi => by
    have e : i = 0 := by simp at hi; omega
    rw [e]
    simp [pm]⟩
theorem Good.add {ps : Met} (h : Good gens n ps) {f : M} {u : List Int} {k : Nat} (hf : (f, u) ∈ ps) (hk : k < gens.length) (hn : Go.Proofs.YtkbfocoaobiijaaGreat.mul f (gm gens k) ∉ ps.map (·.1)) (hl : ps.length ≠ 300) :
    Good gens n (ps ++ [(Go.Proofs.YtkbfocoaobiijaaGreat.mul f (gm gens k), u ++ [(k : Int)])]) := by
  have hg : gm gens k ∈ gens := by rw [gm_eq hk]; exact List.getElem_mem hk
  refine ⟨?_, by have := h.len; simp; omega, ?_, ?_, ?_, ?_⟩
  · rw [List.map_append, List.nodup_append]
    refine ⟨h.nd, by simp, fun a ha b hb => ?_⟩
    simp at hb
    subst hb
    rintro rfl
    exact hn ha
  · intro q hq
    rcases List.mem_append.1 hq with hq | hq
    · exact h.mon q hq
    · simp at hq; subst hq; exact .snoc (h.mon _ hf) hg
  · intro q hq
    rcases List.mem_append.1 hq with hq | hq
    · exact h.wd q hq
    · simp at hq; subst hq
      obtain ⟨e, hz⟩ := h.wd _ hf
      refine ⟨by rw [prd_snoc, ← e]; simp, fun z hz' => ?_⟩
      rcases List.mem_append.1 hz' with hz' | hz'
      · exact hz z hz'
      · simp at hz'; subst hz'; omega
  · obtain ⟨qs, e, hq⟩ := h.fst
    refine ⟨qs ++ [_], by rw [e]; rfl, fun q hq' => ?_⟩
    rcases List.mem_append.1 hq' with hq' | hq'
    · exact hq q hq'
    · simp at hq'; subst hq'; simp
  · intro i hi
    by_cases e : i = ps.length
    · subst e
      obtain ⟨a, ha, e2⟩ := List.getElem_of_mem hf
      have := h.wl a ha
      rw [pm_eq ha, e2] at this
      rw [pm_eq (by simp), List.getElem_append_right (by simp)]
      simp
      simp at this
      omega
    · have hi' : i < ps.length := by simp at hi; omega
      rw [pm_app hi']
      exact h.wl i hi'
theorem drop_gm {l : List M} {k : Nat} {g : M} {gs : List M} (h : l.drop k = g :: gs) : k < l.length ∧ g = gm l k ∧ l.drop (k + 1) = gs := by
  have hk : k < l.length := by
    rcases Nat.lt_or_ge k l.length with h' | h'
    · exact h'
    · rw [List.drop_eq_nil_of_le h'] at h; cases h
  rw [List.drop_eq_getElem_cons hk] at h
  injection h with h1 h2
  exact ⟨hk, by rw [gm_eq hk, h1], h2⟩
theorem drop_cons {l : List M} {k : Nat} (hk : k < l.length) : l.drop k = gm l k :: l.drop (k + 1) := by
  rw [List.drop_eq_getElem_cons hk, gm_eq hk]
theorem rowC_good {f : M} {u : List Int} : ∀ (gs : List M) (k : Nat) (ps : Met), gens.drop k = gs → Good gens n ps → (f, u) ∈ ps →
    (∀ ps', rowC f u gs k ps = some ps' → Good gens n ps' ∧ (∃ qs, ps' = ps ++ qs) ∧ ∀ g ∈ gs, Go.Proofs.YtkbfocoaobiijaaGreat.mul f g ∈ ps'.map (·.1)) ∧
    (rowC f u gs k ps = none → ∃ L : List M, L.Nodup ∧ L.length = 301 ∧ ∀ x ∈ L, Mon gens n x)
  | [], k, ps, _, h, _ => by
    refine ⟨fun ps' e => ?_, fun e => by cases e⟩
    injection e with e; subst e
    exact ⟨h, ⟨[], by simp⟩, by simp⟩
  | g :: gs, k, ps, hd, h, hf => by
    obtain ⟨hk, hg, hd'⟩ := drop_gm hd
    by_cases hin : Go.Proofs.YtkbfocoaobiijaaGreat.mul f g ∈ ps.map (·.1)
    · rw [rowC_in hin]
      obtain ⟨h1, h2⟩ := rowC_good gs (k + 1) ps hd' h hf
      refine ⟨fun ps' e => ?_, h2⟩
      obtain ⟨a, ⟨qs, rfl⟩, c⟩ := h1 ps' e
      refine ⟨a, ⟨qs, rfl⟩, fun x hx => ?_⟩
      rcases List.mem_cons.1 hx with rfl | hx
      · rw [List.map_append]; exact List.mem_append_left _ hin
      · exact c x hx
    · by_cases hl : ps.length = 300
      · rw [rowC_full hin hl]
        refine ⟨fun ps' e => (by cases e), fun _ => ⟨Go.Proofs.YtkbfocoaobiijaaGreat.mul f g :: ps.map (·.1), List.nodup_cons.2 ⟨hin, h.nd⟩, by simp [hl], fun x hx => ?_⟩⟩
        rcases List.mem_cons.1 hx with rfl | hx
        · refine .snoc (h.mon _ hf) ?_
          rw [hg, gm_eq hk]; exact List.getElem_mem hk
        · obtain ⟨q, hq, rfl⟩ := List.mem_map.1 hx
          exact h.mon q hq
      · rw [rowC_new hin hl]
        have h' := h.add hf hk (by rw [← hg]; exact hin) hl
        rw [← hg] at h'
        obtain ⟨h1, h2⟩ := rowC_good gs (k + 1) _ hd' h' (List.mem_append_left _ hf)
        refine ⟨fun ps' e => ?_, h2⟩
        obtain ⟨a, ⟨qs, rfl⟩, c⟩ := h1 ps' e
        refine ⟨a, ⟨_, List.append_assoc _ _ _⟩, fun x hx => ?_⟩
        rcases List.mem_cons.1 hx with rfl | hx
        · simp
        · exact c x hx
theorem allC_good : ∀ (fuel i : Nat) (ps : Met), i + fuel = 300 → Good gens n ps → i ≤ ps.length → (∀ j, j < i → ∀ g ∈ gens, Go.Proofs.YtkbfocoaobiijaaGreat.mul (pm ps j).1 g ∈ ps.map (·.1)) →
    (∀ ps', allC gens fuel i ps = some ps' → Good gens n ps' ∧ ∀ j, j < ps'.length → ∀ g ∈ gens, Go.Proofs.YtkbfocoaobiijaaGreat.mul (pm ps' j).1 g ∈ ps'.map (·.1)) ∧
    (allC gens fuel i ps = none → ∃ L : List M, L.Nodup ∧ L.length = 301 ∧ ∀ x ∈ L, Mon gens n x)
  | 0, i, ps, hi, h, hle, hc => by
    refine ⟨fun ps' e => ?_, fun e => by cases e⟩
    injection e with e; subst e
    have := h.len
    exact ⟨h, fun j hj => hc j (by omega)⟩
  | fuel + 1, i, ps, hi, h, hle, hc => by
    rw [allC]
    by_cases hlt : i < ps.length
    · rw [if_pos hlt]
      have hm : ((pm ps i).1, (pm ps i).2) ∈ ps := pm_mem hlt
      obtain ⟨h1, h2⟩ := rowC_good (f := (pm ps i).1) (u := (pm ps i).2) gens 0 ps rfl h hm
      cases hr : rowC (pm ps i).1 (pm ps i).2 gens 0 ps with
      | none => exact ⟨fun _ e => (by cases e), fun _ => h2 hr⟩
      | some ps1 =>
        obtain ⟨a, ⟨qs, rfl⟩, c⟩ := h1 ps1 hr
        refine allC_good fuel (i + 1) _ (by omega) a (by simp; omega) fun j hj g hg => ?_
        by_cases e : j = i
        · subst e; rw [pm_app hlt]; exact c g hg
        · rw [pm_app (by omega), List.map_append]; exact List.mem_append_left _ (hc j (by omega) g hg)
    · rw [if_neg hlt]
      refine ⟨fun ps' e => ?_, fun e => by cases e⟩
      injection e with e; subst e
      exact ⟨h, fun j hj => hc j (by omega)⟩
theorem clo_good {ps : Met} (h : clo gens n = some ps) : Good gens n ps ∧ ∀ j, j < ps.length → ∀ g ∈ gens, Go.Proofs.YtkbfocoaobiijaaGreat.mul (pm ps j).1 g ∈ ps.map (·.1) :=
  (allC_good 300 0 _ rfl (Good.start gens n) (by simp) fun j hj => absurd hj (by omega)).1 ps h
theorem clo_mem {ps : Met} (h : clo gens n = some ps) {x : M} : x ∈ ps.map (·.1) ↔ Mon gens n x := by
  obtain ⟨hg, hc⟩ := clo_good h
  constructor
  · intro hx
    obtain ⟨q, hq, rfl⟩ := List.mem_map.1 hx
    exact hg.mon q hq
  · intro hx
    induction hx with
    | one => obtain ⟨qs, e, _⟩ := hg.fst; rw [e]; simp
    | snoc _ hg' ih =>
      obtain ⟨q, hq, e⟩ := List.mem_map.1 ih
      obtain ⟨j, hj, e'⟩ := List.getElem_of_mem hq
      have := hc j hj _ hg'
      rwa [pm_eq hj, e', e] at this
theorem nodup_sub_len {α : Type} [DecidableEq α] : ∀ {a b : List α}, a.Nodup → (∀ x ∈ a, x ∈ b) → a.length ≤ b.length
  | [], _, _, _ => by simp
  | x :: xs, b, h, hs => by
    obtain ⟨h1, h2⟩ := List.nodup_cons.1 h
    have hx : x ∈ b := hs x (by simp)
    have := nodup_sub_len (b := b.erase x) h2 fun y hy => (List.mem_erase_of_ne (fun e => h1 (by rw [← e]; exact hy))).2 (hs y (by simp [hy]))
    rw [List.length_erase_of_mem hx] at this
    have h0 : 0 < b.length := List.length_pos_of_mem hx
    simp; omega
end
set_option maxRecDepth 100000
def fk (p : Nat → Bool) (i : Nat) : Nat := ((List.range i).find? p).getD i
theorem fk_eq {p : Nat → Bool} {i k : Nat} (hk : k < i) (hp : p k = true) (hm : ∀ j, j < k → p j = false) : fk p i = k := by
  have : (List.range i).find? p = some k := by
    rw [List.find?_range_eq_some]
    exact ⟨hp, by simpa using hk, fun j hj => by simp [hm j hj]⟩
  rw [fk, this]; rfl
theorem fk_none {p : Nat → Bool} {i : Nat} (h : ∀ j, j < i → p j = false) : fk p i = i := by
  have : (List.range i).find? p = none := by
    rw [List.find?_eq_none]
    intro j hj
    simp [h j (by simpa using hj)]
  rw [fk, this]; rfl
theorem fk_cases (p : Nat → Bool) (i : Nat) : (fk p i < i ∧ p (fk p i) = true ∧ ∀ j, j < fk p i → p j = false) ∨ (fk p i = i ∧ ∀ j, j < i → p j = false) := by
  cases h : (List.range i).find? p with
  | none =>
    rw [List.find?_eq_none] at h
    have h' : ∀ j, j < i → p j = false := fun j hj => by simpa using h j (by simpa using hj)
    exact .inr ⟨fk_none h', h'⟩
  | some k =>
    rw [List.find?_range_eq_some] at h
    obtain ⟨h1, h2, h3⟩ := h
    have hk : k < i := by simpa using h2
    have h3' : ∀ j, j < k → p j = false := fun j hj => by simpa using h3 j hj
    have e := fk_eq hk h1 h3'
    rw [e]
    exact .inl ⟨hk, h1, h3'⟩
def nm (same : Nat → Nat → Bool) : Nat → List Int × Int
  | 0 => ([], 0)
  | i + 1 => if fk (fun k => same k i) i < i then ((nm same i).1 ++ [gi (nm same i).1 (fk (fun k => same k i) i)], (nm same i).2) else ((nm same i).1 ++ [(nm same i).2], (nm same i).2 + 1)
theorem nm_hit {same : Nat → Nat → Bool} {i k : Nat} (hk : k < i) (hs : same k i = true) (hm : ∀ j, j < k → same j i = false) : nm same (i + 1) = ((nm same i).1 ++ [gi (nm same i).1 k], (nm same i).2) := by
  have e := fk_eq (p := fun k => same k i) hk hs hm
  rw [nm, e, if_pos hk]
theorem nm_new {same : Nat → Nat → Bool} {i : Nat} (hm : ∀ j, j < i → same j i = false) : nm same (i + 1) = ((nm same i).1 ++ [(nm same i).2], (nm same i).2 + 1) := by
  have e := fk_none (p := fun k => same k i) hm
  rw [nm, e, if_neg (Nat.lt_irrefl i)]
theorem nm_length (same : Nat → Nat → Bool) : ∀ i, (nm same i).1.length = i
  | 0 => rfl
  | i + 1 => by rw [nm]; split <;> simp [nm_length same i]
theorem nm_bd (same : Nat → Nat → Bool) : ∀ i, 0 ≤ (nm same i).2 ∧ (nm same i).2 ≤ i
  | 0 => by simp [nm]
  | i + 1 => by have := nm_bd same i; rw [nm]; split <;> simp <;> omega
theorem gi_app {xs ys : List Int} {j : Nat} (h : j < xs.length) : gi (xs ++ ys) j = gi xs j := by
  rw [gi_eq h, gi_eq (by simp; omega), List.getElem_append_left h]
theorem gi_last {xs : List Int} {z : Int} {j : Nat} (h : xs.length = j) : gi (xs ++ [z]) j = z := by
  subst h
  rw [gi_eq (by simp), List.getElem_append_right (by simp)]
  simp
theorem nm_val (same : Nat → Nat → Bool) : ∀ i j, j < i → 0 ≤ gi (nm same i).1 j ∧ gi (nm same i).1 j < (nm same i).2
  | 0, j, h => by omega
  | i + 1, j, h => by
    have hl := nm_length same i
    have hb := nm_bd same i
    rcases fk_cases (fun k => same k i) i with ⟨h1, h2, h3⟩ | ⟨h1, h3⟩
    · rw [nm_hit h1 h2 h3]
      by_cases e : j = i
      · subst e
        rw [gi_last hl]
        exact nm_val same _ _ h1
      · rw [gi_app (by omega)]
        exact nm_val same i j (by omega)
    · rw [nm_new h3]
      by_cases e : j = i
      · subst e
        rw [gi_last hl]
        exact ⟨hb.1, by show (nm same j).2 < (nm same j).2 + 1; omega⟩
      · rw [gi_app (by omega)]
        have := nm_val same i j (by omega)
        exact ⟨this.1, by simp; omega⟩
theorem nm_onto (same : Nat → Nat → Bool) : ∀ i (c : Int), 0 ≤ c → c < (nm same i).2 → ∃ j, j < i ∧ gi (nm same i).1 j = c
  | 0, c, h0, h => by simp [nm] at h; omega
  | i + 1, c, h0, h => by
    have hl := nm_length same i
    rcases fk_cases (fun k => same k i) i with ⟨h1, h2, h3⟩ | ⟨h1, h3⟩
    · rw [nm_hit h1 h2 h3] at h ⊢
      obtain ⟨j, hj, e⟩ := nm_onto same i c h0 h
      exact ⟨j, by omega, by rw [gi_app (by omega)]; exact e⟩
    · rw [nm_new h3] at h ⊢
      simp only at h ⊢
      by_cases e : c = (nm same i).2
      · exact ⟨i, by omega, by rw [gi_last hl]; exact e.symm⟩
      · obtain ⟨j, hj, e'⟩ := nm_onto same i c h0 (by omega)
        exact ⟨j, by omega, by rw [gi_app (by omega)]; exact e'⟩
theorem nm_same {same : Nat → Nat → Bool} {n : Nat} (hr : ∀ a, a < n → same a a = true) (hs : ∀ a b, a < n → b < n → same a b = true → same b a = true) (ht : ∀ a b c, a < n → b < n → c < n → same a b = true → same b c = true → same a c = true) :
    ∀ i, i ≤ n → ∀ j k, j < i → k < i → (gi (nm same i).1 j = gi (nm same i).1 k ↔ same j k = true)
  | 0, _, j, k, hj, _ => by omega
  | i + 1, hi, j, k, hj, hk => by
    have hl := nm_length same i
    have ih := nm_same hr hs ht i (by omega)
    have hv := nm_val same i
    -- the last one against an earlier one
    have key : ∀ j, j < i → (gi (nm same (i + 1)).1 j = gi (nm same (i + 1)).1 i ↔ same j i = true) := by
      intro j hj
      rcases fk_cases (fun k => same k i) i with ⟨h1, h2, h3⟩ | ⟨h1, h3⟩
      · rw [nm_hit h1 h2 h3, gi_last hl, gi_app (by omega), ih j _ hj h1]
        constructor
        · intro h; exact ht _ _ _ (by omega) (by omega) (by omega) h h2
        · intro h; exact ht _ _ _ (by omega) (by omega) (by omega) h (hs _ _ (by omega) (by omega) h2)
      · rw [nm_new h3, gi_last hl, gi_app (by omega)]
        have := hv j hj
        have := h3 j hj
        constructor
        · intro h; omega
        · intro h; rw [this] at h; cases h
    by_cases ej : j = i
    · by_cases ek : k = i
      · rw [ej, ek]; simp [hr i (by omega)]
      · subst ej
        have := key k (by omega)
        constructor
        · intro h; exact hs _ _ (by omega) (by omega) (this.1 h.symm)
        · intro h; exact (this.2 (hs _ _ (by omega) (by omega) h)).symm
    · by_cases ek : k = i
      · subst ek; exact key j (by omega)
      · have e : ∀ m, m < i → gi (nm same (i + 1)).1 m = gi (nm same i).1 m := by
          intro m hm
          rcases fk_cases (fun k => same k i) i with ⟨h1, h2, h3⟩ | ⟨h1, h3⟩
          · rw [nm_hit h1 h2 h3, gi_app (by omega)]
          · rw [nm_new h3, gi_app (by omega)]
        rw [e j (by omega), e k (by omega)]
        exact ih j k (by omega) (by omega)
theorem nm_congr {same same' : Nat → Nat → Bool} : ∀ {i : Nat}, (∀ a b, a < i → b < i → same a b = same' a b) → nm same i = nm same' i
  | 0, _ => rfl
  | i + 1, h => by
    have ih := nm_congr (same := same) (same' := same') (i := i) fun a b ha hb => h a b (by omega) (by omega)
    rcases fk_cases (fun k => same k i) i with ⟨h1, h2, h3⟩ | ⟨h1, h3⟩
    · rw [nm_hit h1 h2 h3, nm_hit (same := same') h1 (by rw [← h _ _ (by omega) (by omega)]; exact h2) (fun j hj => by rw [← h _ _ (by omega) (by omega)]; exact h3 j hj), ih]
    · rw [nm_new h3, nm_new (same := same') (fun j hj => by rw [← h _ _ (by omega) (by omega)]; exact h3 j hj), ih]
def dst : List Int → List Int → List Int
  | acc, [] => acc
  | acc, z :: zs => if z ∈ acc then dst acc zs else dst (acc ++ [z]) zs
theorem dst_mem {z : Int} : ∀ {acc zs : List Int}, z ∈ dst acc zs ↔ z ∈ acc ∨ z ∈ zs
  | acc, [] => by simp [dst]
  | acc, y :: zs => by
    rw [dst]
    split
    · rename_i h
      rw [dst_mem, List.mem_cons]
      constructor
      · rintro (h1 | h1)
        · exact .inl h1
        · exact .inr (.inr h1)
      · rintro (h1 | rfl | h1)
        · exact .inl h1
        · exact .inl h
        · exact .inr h1
    · rw [dst_mem, List.mem_append, List.mem_singleton, List.mem_cons, or_assoc]
theorem dst_nodup : ∀ {acc zs : List Int}, acc.Nodup → (dst acc zs).Nodup
  | acc, [], h => h
  | acc, y :: zs, h => by
    rw [dst]
    split
    · exact dst_nodup h
    · rename_i hn
      refine dst_nodup ?_
      rw [List.nodup_append]
      refine ⟨h, by simp, fun a ha b hb => ?_⟩
      simp at hb
      rintro rfl
      rw [hb] at ha
      exact hn ha
theorem dst_app : ∀ {acc xs ys : List Int}, dst acc (xs ++ ys) = dst (dst acc xs) ys
  | acc, [], ys => rfl
  | acc, x :: xs, ys => by
    rw [List.cons_append, dst, dst]
    split
    · exact dst_app
    · exact dst_app
theorem dst_len : ∀ {acc zs : List Int}, (dst acc zs).length ≤ acc.length + zs.length
  | acc, [] => by simp [dst]
  | acc, y :: zs => by
    rw [dst]
    split
    · have := @dst_len acc zs; simp; omega
    · have := @dst_len (acc ++ [y]) zs; simp at this ⊢; omega
set_option maxRecDepth 100000
structure Mnd (n : Int) (E : List M) : Prop where
  asc : Asc E
  ok : ∀ f ∈ E, Valid f ∧ f.p = n
  oneE : Go.Proofs.YtkbfocoaobiijaaGreat.one n ∈ E
  mulE : ∀ f ∈ E, ∀ g ∈ E, Go.Proofs.YtkbfocoaobiijaaGreat.mul f g ∈ E
section
variable {n : Int} {E : List M}
theorem Mnd.assoc (h : Mnd n E) {f g x : M} (hf : f ∈ E) (hg : g ∈ E) : mul (mul f g) x = mul f (mul g x) :=
  mul_assoc (h.ok f hf).1 (h.ok g hg).1 (by rw [(h.ok f hf).2, (h.ok g hg).2])
theorem Mnd.mul1 (h : Mnd n E) {f : M} (hf : f ∈ E) : mul f (Go.Proofs.YtkbfocoaobiijaaGreat.one n) = f := by
  have := mul_one' (h.ok f hf).1
  rwa [(h.ok f hf).2] at this
theorem Mnd.one1 (h : Mnd n E) {f : M} (hf : f ∈ E) : mul (Go.Proofs.YtkbfocoaobiijaaGreat.one n) f = f := by
  have := one_mul' (h.ok f hf).1
  rwa [(h.ok f hf).2] at this
theorem Mnd.pwE (h : Mnd n E) {f : M} (hf : f ∈ E) : ∀ k, pw f k ∈ E
  | 0 => by rw [pw_zero, (h.ok f hf).2]; exact h.oneE
  | k + 1 => by rw [pw_succ]; exact h.mulE _ (h.pwE hf k) _ hf
def RR (E : List M) (f g : M) : Prop := ∃ x ∈ E, mul f x = g
def LL (E : List M) (f g : M) : Prop := ∃ x ∈ E, mul x f = g
def JJ (E : List M) (f g : M) : Prop := ∃ x ∈ E, ∃ y ∈ E, mul x (mul f y) = g
instance (f g : M) : Decidable (RR E f g) := by unfold RR; infer_instance
instance (f g : M) : Decidable (LL E f g) := by unfold LL; infer_instance
instance (f g : M) : Decidable (JJ E f g) := by unfold JJ; infer_instance
theorem RR.mem (h : Mnd n E) {f g : M} (hf : f ∈ E) (hr : RR E f g) : g ∈ E := by
  obtain ⟨x, hx, rfl⟩ := hr; exact h.mulE _ hf _ hx
theorem LL.mem (h : Mnd n E) {f g : M} (hf : f ∈ E) (hr : LL E f g) : g ∈ E := by
  obtain ⟨x, hx, rfl⟩ := hr; exact h.mulE _ hx _ hf
theorem JJ.mem (h : Mnd n E) {f g : M} (hf : f ∈ E) (hr : JJ E f g) : g ∈ E := by
  obtain ⟨x, hx, y, hy, rfl⟩ := hr; exact h.mulE _ hx _ (h.mulE _ hf _ hy)
theorem RR.refl (h : Mnd n E) {f : M} (hf : f ∈ E) : RR E f f := ⟨_, h.oneE, h.mul1 hf⟩
theorem LL.refl (h : Mnd n E) {f : M} (hf : f ∈ E) : LL E f f := ⟨_, h.oneE, h.one1 hf⟩
theorem JJ.refl (h : Mnd n E) {f : M} (hf : f ∈ E) : JJ E f f := ⟨_, h.oneE, _, h.oneE, by rw [h.mul1 hf, h.one1 hf]⟩
theorem RR.trans (h : Mnd n E) {f g k : M} (hf : f ∈ E) (h1 : RR E f g) (h2 : RR E g k) : RR E f k := by
  obtain ⟨x, hx, rfl⟩ := h1; obtain ⟨y, hy, rfl⟩ := h2
  exact ⟨_, h.mulE _ hx _ hy, (h.assoc hf hx).symm⟩
theorem LL.trans (h : Mnd n E) {f g k : M} (h1 : LL E f g) (h2 : LL E g k) : LL E f k := by
  obtain ⟨x, hx, rfl⟩ := h1; obtain ⟨y, hy, rfl⟩ := h2
  exact ⟨_, h.mulE _ hy _ hx, h.assoc hy hx⟩
theorem JJ.of_R (h : Mnd n E) {f g : M} (hf : f ∈ E) (h1 : RR E f g) : JJ E f g := by
  obtain ⟨x, hx, rfl⟩ := h1
  exact ⟨_, h.oneE, x, hx, h.one1 (h.mulE _ hf _ hx)⟩
theorem JJ.of_L (h : Mnd n E) {f g : M} (hf : f ∈ E) (h1 : LL E f g) : JJ E f g := by
  obtain ⟨x, hx, rfl⟩ := h1
  exact ⟨x, hx, _, h.oneE, by rw [h.mul1 hf]⟩
theorem JJ.trans (h : Mnd n E) {f g k : M} (hf : f ∈ E) (h1 : JJ E f g) (h2 : JJ E g k) : JJ E f k := by
  obtain ⟨x, hx, y, hy, rfl⟩ := h1; obtain ⟨u, hu, v, hv, rfl⟩ := h2
  refine ⟨_, h.mulE _ hu _ hx, _, h.mulE _ hy _ hv, ?_⟩
  rw [h.assoc hu hx, h.assoc hx (h.mulE _ hf _ hy), h.assoc hf hy]
theorem iter_eq (h : Mnd n E) {x f c : M} (hx : x ∈ E) (hf : f ∈ E) (hc : c ∈ E) (e : mul x (mul f c) = f) : ∀ m, mul (pw x m) (mul f (pw c m)) = f
  | 0 => by rw [pw_zero, pw_zero, (h.ok x hx).2, (h.ok c hc).2, h.mul1 hf, h.one1 hf]
  | m + 1 => by
    have hc1 : pw c (m + 1) = mul c (pw c m) := by
      have := pw_add (h.ok c hc).1 1 m
      rw [pw_one (h.ok c hc).1, Nat.add_comm] at this
      exact this.symm
    have hfc := h.mulE _ hf _ hc
    rw [hc1, pw_succ, ← h.assoc hf hc, h.assoc (h.pwE hx m) hx, ← h.assoc hx hfc, e]
    exact iter_eq h hx hf hc e m
theorem stabR (h : Mnd n E) {f b : M} (hf : f ∈ E) (hb : b ∈ E) (hj : JJ E (mul f b) f) : RR E (mul f b) f := by
  obtain ⟨x, hx, y, hy, e⟩ := hj
  have hby := h.mulE _ hb _ hy
  rw [h.assoc hf hb] at e
  have e60 := iter_eq h hx hf hby e 60
  have hp := h.pwE hby 60
  have e2 : mul f (pw (mul b y) 60) = f := by
    have hid := idem_60 (h.ok _ hby).1
    calc mul f (pw (mul b y) 60) = mul (mul (pw x 60) (mul f (pw (mul b y) 60))) (pw (mul b y) 60) := by rw [e60]
      _ = mul (pw x 60) (mul f (pw (mul b y) 60)) := by rw [h.assoc (h.pwE hx 60) (h.mulE _ hf _ hp), h.assoc hf hp, hid]
      _ = f := e60
  have hc1 : pw (mul b y) 60 = mul (mul b y) (pw (mul b y) 59) := by
    have := pw_add (h.ok _ hby).1 1 59
    rw [pw_one (h.ok _ hby).1] at this
    exact this.symm
  refine ⟨mul y (pw (mul b y) 59), h.mulE _ hy _ (h.pwE hby 59), ?_⟩
  rw [h.assoc hf hb, ← h.assoc hb hy, ← hc1, e2]
theorem stabL (h : Mnd n E) {f b : M} (hf : f ∈ E) (hb : b ∈ E) (hj : JJ E (mul b f) f) : LL E (mul b f) f := by
  obtain ⟨x, hx, y, hy, e⟩ := hj
  have hxb := h.mulE _ hx _ hb
  have e' : mul (mul x b) (mul f y) = f := by rw [h.assoc hx hb, ← h.assoc hb hf]; exact e
  have e60 := iter_eq h hxb hf hy e' 60
  have hp := h.pwE hxb 60
  have e2 : mul (pw (mul x b) 60) f = f := by
    have hid := idem_60 (h.ok _ hxb).1
    calc mul (pw (mul x b) 60) f = mul (pw (mul x b) 60) (mul (pw (mul x b) 60) (mul f (pw y 60))) := by rw [e60]
      _ = mul (pw (mul x b) 60) (mul f (pw y 60)) := by rw [← h.assoc hp hp, hid]
      _ = f := e60
  have hc1 : pw (mul x b) 60 = mul (pw (mul x b) 59) (mul x b) := rfl
  refine ⟨mul (pw (mul x b) 59) x, h.mulE _ (h.pwE hxb 59) _ hx, ?_⟩
  rw [← h.assoc (h.mulE _ (h.pwE hxb 59) _ hx) hb, h.assoc (h.pwE hxb 59) hx, ← hc1, e2]
def eqR (E : List M) (f g : M) : Prop := RR E f g ∧ RR E g f
def eqL (E : List M) (f g : M) : Prop := LL E f g ∧ LL E g f
def eqJ (E : List M) (f g : M) : Prop := JJ E f g ∧ JJ E g f
def eqH (E : List M) (f g : M) : Prop := eqL E f g ∧ eqR E f g
instance (f g : M) : Decidable (eqR E f g) := by unfold eqR; infer_instance
instance (f g : M) : Decidable (eqL E f g) := by unfold eqL; infer_instance
instance (f g : M) : Decidable (eqJ E f g) := by unfold eqJ; infer_instance
instance (f g : M) : Decidable (eqH E f g) := by unfold eqH; infer_instance
theorem eqR.symm {f g : M} (h : eqR E f g) : eqR E g f := ⟨h.2, h.1⟩
theorem eqL.symm {f g : M} (h : eqL E f g) : eqL E g f := ⟨h.2, h.1⟩
theorem eqJ.symm {f g : M} (h : eqJ E f g) : eqJ E g f := ⟨h.2, h.1⟩
theorem eqH.symm {f g : M} (h : eqH E f g) : eqH E g f := ⟨h.1.symm, h.2.symm⟩
theorem eqR.trans (h : Mnd n E) {f g k : M} (hf : f ∈ E) (h1 : eqR E f g) (h2 : eqR E g k) : eqR E f k :=
  ⟨h1.1.trans h hf h2.1, h2.2.trans h (h2.1.mem h (h1.1.mem h hf)) h1.2⟩
theorem eqL.trans (h : Mnd n E) {f g k : M} (h1 : eqL E f g) (h2 : eqL E g k) : eqL E f k := ⟨h1.1.trans h h2.1, h2.2.trans h h1.2⟩
theorem eqJ.trans (h : Mnd n E) {f g k : M} (hf : f ∈ E) (h1 : eqJ E f g) (h2 : eqJ E g k) : eqJ E f k :=
  ⟨h1.1.trans h hf h2.1, h2.2.trans h (h2.1.mem h (h1.1.mem h hf)) h1.2⟩
theorem eqH.trans (h : Mnd n E) {f g k : M} (hf : f ∈ E) (h1 : eqH E f g) (h2 : eqH E g k) : eqH E f k := ⟨h1.1.trans h h2.1, h1.2.trans h hf h2.2⟩
theorem eqR.refl (h : Mnd n E) {f : M} (hf : f ∈ E) : eqR E f f := ⟨RR.refl h hf, RR.refl h hf⟩
theorem eqL.refl (h : Mnd n E) {f : M} (hf : f ∈ E) : eqL E f f := ⟨LL.refl h hf, LL.refl h hf⟩
theorem eqJ.refl (h : Mnd n E) {f : M} (hf : f ∈ E) : eqJ E f f := ⟨JJ.refl h hf, JJ.refl h hf⟩
theorem eqH.refl (h : Mnd n E) {f : M} (hf : f ∈ E) : eqH E f f := ⟨eqL.refl h hf, eqR.refl h hf⟩
theorem eqR.toJ (h : Mnd n E) {f g : M} (hf : f ∈ E) (h1 : eqR E f g) : eqJ E f g := ⟨.of_R h hf h1.1, .of_R h (h1.1.mem h hf) h1.2⟩
theorem eqL.toJ (h : Mnd n E) {f g : M} (hf : f ∈ E) (h1 : eqL E f g) : eqJ E f g := ⟨.of_L h hf h1.1, .of_L h (h1.1.mem h hf) h1.2⟩
theorem between (h : Mnd n E) {a b : M} (ha : a ∈ E) (hj : eqJ E a b) : ∃ c ∈ E, eqR E a c ∧ eqL E c b := by
  obtain ⟨⟨x, hx, y, hy, e⟩, hba⟩ := hj
  have hc := h.mulE _ ha _ hy
  have hb : b ∈ E := by rw [← e]; exact h.mulE _ hx _ hc
  have hLcb : LL E (mul a y) b := ⟨x, hx, e⟩
  have hRac : RR E a (mul a y) := ⟨y, hy, rfl⟩
  have hca : JJ E (mul a y) a := (JJ.of_L h hc hLcb).trans h hc hba
  have hbc : JJ E b (mul a y) := hba.trans h hb (.of_R h ha hRac)
  refine ⟨mul a y, hc, ⟨hRac, stabR h ha hy hca⟩, hLcb, ?_⟩
  rw [← e]
  rw [← e] at hbc
  exact stabL h hc hx hbc
def nH (E : List M) (a : M) : Nat := (E.filter fun x => decide (eqH E x a)).length
theorem nH_R (h : Mnd n E) {a b : M} (ha : a ∈ E) (hr : eqR E a b) : nH E a ≤ nH E b := by
  have hb := hr.1.mem h ha
  obtain ⟨⟨u, hu, eu⟩, ⟨v, hv, ev⟩⟩ := id hr
  have back : ∀ x ∈ E, eqL E x a → mul (mul x u) v = x := by
    rintro x hx ⟨_, s, hs, e⟩
    rw [← e, h.assoc hs ha, eu, h.assoc hs hb, ev]
  have hnd : ((E.filter fun x => decide (eqH E x a)).map fun x => mul x u).Nodup := by
    rw [List.nodup_iff_pairwise_ne, List.pairwise_map]
    refine List.Pairwise.imp_of_mem ?_ (h.asc.nodup.filter _)
    intro x y hx hy hne e
    rw [List.mem_filter, decide_eq_true_eq] at hx hy
    have h1 := back x hx.1 hx.2.1
    have h2 := back y hy.1 hy.2.1
    rw [e, h2] at h1
    exact hne h1.symm
  have := nodup_sub_len (b := E.filter fun x => decide (eqH E x b)) hnd (by
    intro z hz
    obtain ⟨x, hx, rfl⟩ := List.mem_map.1 hz
    rw [List.mem_filter, decide_eq_true_eq] at hx
    obtain ⟨hxE, hL, hR⟩ := hx
    have hxu := h.mulE _ hxE _ hu
    rw [List.mem_filter, decide_eq_true_eq]
    refine ⟨hxu, ⟨?_, ?_⟩, ?_⟩
    · obtain ⟨t, ht, e⟩ := hL.1
      exact ⟨t, ht, by rw [← h.assoc ht hxE, e, eu]⟩
    · obtain ⟨s, hs, e⟩ := hL.2
      exact ⟨s, hs, by rw [← eu, ← h.assoc hs ha, e]⟩
    · have hxx : eqR E (mul x u) x := ⟨⟨v, hv, back x hxE hL⟩, ⟨u, hu, rfl⟩⟩
      exact (hxx.trans h hxu hR).trans h hxu hr)
  simpa [nH] using this
theorem nH_L (h : Mnd n E) {a b : M} (ha : a ∈ E) (hl : eqL E a b) : nH E a ≤ nH E b := by
  have hb := hl.1.mem h ha
  obtain ⟨⟨u, hu, eu⟩, ⟨v, hv, ev⟩⟩ := id hl
  have back : ∀ x ∈ E, eqR E x a → mul v (mul u x) = x := by
    rintro x hx ⟨_, s, hs, e⟩
    rw [← e, ← h.assoc hu ha, eu, ← h.assoc hv hb, ev]
  have hnd : ((E.filter fun x => decide (eqH E x a)).map fun x => mul u x).Nodup := by
    rw [List.nodup_iff_pairwise_ne, List.pairwise_map]
    refine List.Pairwise.imp_of_mem ?_ (h.asc.nodup.filter _)
    intro x y hx hy hne e
    rw [List.mem_filter, decide_eq_true_eq] at hx hy
    have h1 := back x hx.1 hx.2.2
    have h2 := back y hy.1 hy.2.2
    rw [e, h2] at h1
    exact hne h1.symm
  have := nodup_sub_len (b := E.filter fun x => decide (eqH E x b)) hnd (by
    intro z hz
    obtain ⟨x, hx, rfl⟩ := List.mem_map.1 hz
    rw [List.mem_filter, decide_eq_true_eq] at hx
    obtain ⟨hxE, hL, hR⟩ := hx
    have hux := h.mulE _ hu _ hxE
    rw [List.mem_filter, decide_eq_true_eq]
    refine ⟨hux, ?_, ⟨?_, ?_⟩⟩
    · have hxx : eqL E (mul u x) x := ⟨⟨v, hv, back x hxE hR⟩, ⟨u, hu, rfl⟩⟩
      exact (hxx.trans h hL).trans h hl
    · obtain ⟨t, ht, e⟩ := hR.1
      exact ⟨t, ht, by rw [h.assoc hu hxE, e, eu]⟩
    · obtain ⟨s, hs, e⟩ := hR.2
      exact ⟨s, hs, by rw [← eu, h.assoc hu ha, e]⟩)
  simpa [nH] using this
theorem nH_J (h : Mnd n E) {a b : M} (ha : a ∈ E) (hj : eqJ E a b) : nH E a = nH E b := by
  obtain ⟨c, hc, hR, hL⟩ := between h ha hj
  have hb := hL.1.mem h hc
  have h1 := nH_R h ha hR
  have h2 := nH_R h hc hR.symm
  have h3 := nH_L h hc hL
  have h4 := nH_L h hb hL.symm
  omega
end
theorem part_len {α β : Type} [DecidableEq β] (key : α → β) (m : Nat) : ∀ (ks : List β) (l : List α), ks.Nodup → (∀ x ∈ l, key x ∈ ks) → (∀ k ∈ ks, (l.filter fun x => decide (key x = k)).length = m) → l.length = ks.length * m
  | [], l, _, h, _ => by
    cases l with
    | nil => simp
    | cons x xs => exact absurd (h x (by simp)) (by simp)
  | k :: ks, l, hnd, h, hm => by
    obtain ⟨h1, h2⟩ := List.nodup_cons.1 hnd
    have e1 := hm k (by simp)
    have e2 := part_len key m ks (l.filter fun x => !decide (key x = k)) h2
      (fun x hx => by
        rw [List.mem_filter] at hx
        have := h x hx.1
        rcases List.mem_cons.1 this with e | e
        · simp [e] at hx
        · exact e)
      (fun j hj => by
        rw [List.filter_filter]
        rw [← hm j (by simp [hj])]
        congr 1
        refine List.filter_congr fun x _ => ?_
        by_cases e : key x = j
        · have : j ≠ k := fun e' => h1 (e' ▸ hj)
          simp [e, this]
        · simp [e])
    have e3 : l.length = (l.filter fun x => decide (key x = k)).length + (l.filter fun x => !decide (key x = k)).length := by
      clear e1 e2 h hm
      induction l with
      | nil => rfl
      | cons x xs ih =>
        rw [List.filter_cons, List.filter_cons]
        cases decide (key x = k) <;> simp <;> omega
    rw [List.length_cons, Nat.succ_mul]
    omega
set_option maxRecDepth 100000
/-! ### the number of a map -/
def num (f : M) : Int := (((f.t0 * 5 + f.t1) * 5 + f.t2) * 5 + f.t3) * 5 + f.t4
theorem num_bd {f : M} (hf : Valid f) : 0 ≤ num f ∧ num f < 3125 := by
  have h0 := hf.nn (k := 0) (by omega); have h1 := hf.nn (k := 1) (by omega); have h2 := hf.nn (k := 2) (by omega); have h3 := hf.nn (k := 3) (by omega); have h4 := hf.nn (k := 4) (by omega)
  simp only [M.at] at h0 h1 h2 h3 h4
  unfold num
  omega
theorem digit {x y a b : Int} (ha : 0 ≤ a ∧ a < 5) (hb : 0 ≤ b ∧ b < 5) (h : x * 5 + a = y * 5 + b) : x = y ∧ a = b := by omega
theorem num_inj {f g : M} (hf : Valid f) (hg : Valid g) (hp : f.p = g.p) (h : num f = num g) : f = g := by
  have a0 := hf.nn (k := 0) (by omega); have a1 := hf.nn (k := 1) (by omega); have a2 := hf.nn (k := 2) (by omega); have a3 := hf.nn (k := 3) (by omega); have a4 := hf.nn (k := 4) (by omega)
  have b0 := hg.nn (k := 0) (by omega); have b1 := hg.nn (k := 1) (by omega); have b2 := hg.nn (k := 2) (by omega); have b3 := hg.nn (k := 3) (by omega); have b4 := hg.nn (k := 4) (by omega)
  simp only [M.at] at a0 a1 a2 a3 a4 b0 b1 b2 b3 b4
  unfold num at h
  obtain ⟨h, e4⟩ := digit a4 b4 h
  obtain ⟨h, e3⟩ := digit a3 b3 h
  obtain ⟨h, e2⟩ := digit a2 b2 h
  obtain ⟨e0, e1⟩ := digit a1 b1 h
  obtain ⟨p, x0, x1, x2, x3, x4⟩ := f
  obtain ⟨q, y0, y1, y2, y3, y4⟩ := g
  simp only at hp e0 e1 e2 e3 e4
  subst hp e0 e1 e2 e3 e4
  rfl
/-! ### places -/
def ix (E : List M) (f : M) : Nat := E.idxOf f
theorem ix_lt {E : List M} {f : M} (h : f ∈ E) : ix E f < E.length := List.idxOf_lt_length_of_mem h
theorem gm_ix {E : List M} {f : M} (h : f ∈ E) : gm E (ix E f) = f := by
  rw [gm_eq (ix_lt h)]
  exact List.getElem_idxOf (ix_lt h)
theorem gm_mem {E : List M} {i : Nat} (h : i < E.length) : gm E i ∈ E := by rw [gm_eq h]; exact List.getElem_mem h
theorem gm_inj {E : List M} (hn : E.Nodup) {i k : Nat} (hi : i < E.length) (hk : k < E.length) (h : gm E i = gm E k) : i = k := by
  rw [gm_eq hi, gm_eq hk] at h
  exact (List.getElem_inj hn).1 h
theorem ix_gm {E : List M} (hn : E.Nodup) {i : Nat} (hi : i < E.length) : ix E (gm E i) = i := gm_inj hn (ix_lt (gm_mem hi)) hi (gm_ix (gm_mem hi))
theorem mem_gm {E : List M} {f : M} (h : f ∈ E) : ∃ i, i < E.length ∧ gm E i = f := ⟨_, ix_lt h, gm_ix h⟩
def plOf (E : List M) (f : M) : Int := if f ∈ E then (ix E f : Int) + 1 else 0
theorem plOf_nil (f : M) : plOf [] f = 0 := by simp [plOf]
theorem plOf_pos {E : List M} {f : M} : 0 < plOf E f ↔ f ∈ E := by
  unfold plOf
  split
  · rename_i h; simp [h]
  · rename_i h; simp [h]
theorem plOf_in {E : List M} {f : M} (h : f ∈ E) : plOf E f = (ix E f : Int) + 1 := if_pos h
theorem plOf_out {E : List M} {f : M} (h : f ∉ E) : plOf E f = 0 := if_neg h
theorem ix_app {E : List M} {f g : M} (h : f ∈ E) : ix (E ++ [g]) f = ix E f := by
  unfold ix; rw [List.idxOf_append]; simp [h]
theorem ix_last {E : List M} {g : M} (h : g ∉ E) : ix (E ++ [g]) g = E.length := by
  unfold ix; rw [List.idxOf_append]; simp [h]
theorem plOf_app {E : List M} {f g : M} (hg : g ∉ E) : plOf (E ++ [g]) f = if f = g then (E.length : Int) + 1 else plOf E f := by
  by_cases e : f = g
  · subst e; rw [if_pos rfl, plOf_in (by simp), ix_last hg]
  · rw [if_neg e]
    by_cases h : f ∈ E
    · rw [plOf_in (by simp [h]), plOf_in h, ix_app h]
    · rw [plOf_out (by simp [h, e]), plOf_out h]
def Plc (n : Int) (E : List M) (pl : Nat → Int) : Prop := ∀ f, Valid f → f.p = n → pl (num f).toNat = plOf E f
theorem Plc.step {n : Int} {E : List M} {pl : Nat → Int} (h : Plc n E pl) {g : M} (hv : Valid g) (hp : g.p = n) (hg : g ∉ E) : Plc n (E ++ [g]) fun j => if j = (num g).toNat then (E.length : Int) + 1 else pl j := by
  intro f hf hfp
  rw [plOf_app hg]
  by_cases e : f = g
  · subst e; simp
  · have hne : (num f).toNat ≠ (num g).toNat := by
      intro e'
      have h1 := num_bd hf; have h2 := num_bd hv
      exact e (num_inj hf hv (by rw [hfp, hp]) (by omega))
    simp only [if_neg hne, if_neg e]
    exact h f hf hfp
def PlcTo (n : Int) (E F : List M) (k : Nat) (pl : Nat → Int) : Prop := ∀ f, Valid f → f.p = n → pl (num f).toNat = if f ∈ E ∧ ix E f < k then (ix E f : Int) + 1 else plOf F f
theorem PlcTo.start {n : Int} {E F : List M} {pl : Nat → Int} (h : Plc n F pl) : PlcTo n E F 0 pl := by
  intro f hf hp
  rw [if_neg (by omega)]
  exact h f hf hp
theorem PlcTo.step {n : Int} {E F : List M} {k : Nat} {pl : Nat → Int} (h : PlcTo n E F k pl) (hn : E.Nodup) (hk : k < E.length) (hok : ∀ f ∈ E, Valid f ∧ f.p = n) : PlcTo n E F (k + 1) fun j => if j = (num (gm E k)).toNat then (k : Int) + 1 else pl j := by
  intro f hf hp
  have hm := gm_mem hk
  by_cases e : f = gm E k
  · subst e
    rw [if_pos ⟨hm, by rw [ix_gm hn hk]; omega⟩, ix_gm hn hk]
    simp
  · have hne : (num f).toNat ≠ (num (gm E k)).toNat := by
      intro e'
      have h1 := num_bd hf; have h2 := num_bd (hok _ hm).1
      exact e (num_inj hf (hok _ hm).1 (by rw [hp, (hok _ hm).2]) (by omega))
    simp only [if_neg hne]
    rw [h f hf hp]
    by_cases hE : f ∈ E
    · have : ix E f ≠ k := fun e' => e (by rw [← e']; exact (gm_ix hE).symm)
      by_cases hl : ix E f < k
      · rw [if_pos ⟨hE, hl⟩, if_pos ⟨hE, by omega⟩]
      · rw [if_neg (fun h => hl h.2), if_neg (fun h => by have := h.2; omega)]
    · rw [if_neg (fun h => hE h.1), if_neg (fun h => hE h.1)]
theorem PlcTo.fin {n : Int} {E F : List M} {k : Nat} {pl : Nat → Int} (h : PlcTo n E F k pl) (hk : E.length ≤ k) (hs : ∀ f, f ∈ E ↔ f ∈ F) : Plc n E pl := by
  intro f hf hp
  rw [h f hf hp]
  by_cases hE : f ∈ E
  · rw [if_pos ⟨hE, by have := ix_lt hE; omega⟩, plOf_in hE]
  · rw [if_neg (fun h => hE h.1), plOf_out hE, plOf_out fun h => hE ((hs f).2 h)]
/-! ### the elements -/
section
variable {gens : List M} {n : Int}
theorem clo_mnd {ps : Met} (h1 : 1 ≤ n) (h5 : n ≤ 5) (hG : Pts n gens) (h : clo gens n = some ps) : Mnd n (sortM (ps.map (·.1))) := by
  refine ⟨sortM_asc _, fun f hf => ?_, ?_, fun f hf g hg => ?_⟩
  · rw [sortM_mem, clo_mem h] at hf; exact hf.ok h1 h5 hG
  · rw [sortM_mem, clo_mem h]; exact .one
  · rw [sortM_mem, clo_mem h] at hf hg ⊢; exact hf.mul h1 h5 hG hg
theorem Mnd.pos {E : List M} (h : Mnd n E) : 0 < E.length := List.length_pos_of_mem h.oneE
theorem Mnd.ix_mul {E : List M} (h : Mnd n E) {i k : Nat} (hi : i < E.length) (hk : k < E.length) : ix E (mul (gm E i) (gm E k)) < E.length := ix_lt (h.mulE _ (gm_mem hi) _ (gm_mem hk))
def wordOf (ps : Met) (f : M) : List Int := (pm ps (ix (ps.map (·.1)) f)).2
theorem pm_fst {ps : Met} {i : Nat} (h : i < ps.length) : (pm ps i).1 = gm (ps.map (·.1)) i := by
  rw [pm_eq h, gm_eq (by simpa using h), List.getElem_map]
end
set_option maxRecDepth 100000
def Rel (E : List M) (l r : Bool) (f x : M) : Prop :=
  if l = true then (if r = true then JJ E f x else LL E f x) else (if r = true then RR E f x else f = x)
instance (E : List M) (l r : Bool) (f x : M) : Decidable (Rel E l r f x) := by unfold Rel; infer_instance
section
variable {gens E Q : List M} {n : Int} {l r : Bool} {f x g : M}
theorem closL (hm : Mnd n E) (hE : ∀ x, x ∈ E ↔ Mon gens n x) (hG : Pts n gens) (hQ : ∀ f ∈ Q, f ∈ E) (hc : ∀ f ∈ Q, ∀ g ∈ gens, mul g f ∈ Q) {x : M} (hx : Mon gens n x) : ∀ f ∈ Q, mul x f ∈ Q := by
  induction hx with
  | one => intro f hf; rw [hm.one1 (hQ f hf)]; exact hf
  | snoc h hg ih =>
    intro f hf
    rw [hm.assoc ((hE _).2 h) ((hE _).2 (Mon.gen hG hg))]
    exact ih _ (hc f hf _ hg)
theorem closR (hm : Mnd n E) (hE : ∀ x, x ∈ E ↔ Mon gens n x) (hQ : ∀ f ∈ Q, f ∈ E) (hc : ∀ f ∈ Q, ∀ g ∈ gens, mul f g ∈ Q) {x : M} (hx : Mon gens n x) : ∀ f ∈ Q, mul f x ∈ Q := by
  induction hx with
  | one => intro f hf; rw [hm.mul1 (hQ f hf)]; exact hf
  | snoc h hg ih =>
    intro f hf
    rw [← hm.assoc (hQ f hf) ((hE _).2 h)]
    exact hc _ (ih f hf) _ hg
theorem reach_all (hm : Mnd n E) (hE : ∀ x, x ∈ E ↔ Mon gens n x) (hG : Pts n gens) (hQ : ∀ f ∈ Q, f ∈ E) (hf : f ∈ Q)
    (hL : l = true → ∀ f ∈ Q, ∀ g ∈ gens, mul g f ∈ Q) (hR : r = true → ∀ f ∈ Q, ∀ g ∈ gens, mul f g ∈ Q) (h : Rel E l r f x) : x ∈ Q := by
  unfold Rel at h
  split at h
  · rename_i hl
    split at h
    · rename_i hr
      obtain ⟨a, ha, b, hb, rfl⟩ := h
      exact closL hm hE hG hQ (hL hl) ((hE _).1 ha) _ (closR hm hE hQ (hR hr) ((hE _).1 hb) _ hf)
    · obtain ⟨a, ha, rfl⟩ := h
      exact closL hm hE hG hQ (hL hl) ((hE _).1 ha) _ hf
  · split at h
    · rename_i hr
      obtain ⟨a, ha, rfl⟩ := h
      exact closR hm hE hQ (hR hr) ((hE _).1 ha) _ hf
    · exact h ▸ hf
theorem Rel.refl (hm : Mnd n E) (hf : f ∈ E) : Rel E l r f f := by
  unfold Rel
  split
  · split
    · exact JJ.refl hm hf
    · exact LL.refl hm hf
  · split
    · exact RR.refl hm hf
    · rfl
theorem Rel.left (hm : Mnd n E) (_ : f ∈ E) (hg : g ∈ E) (hl : l = true) (h : Rel E l r f x) : Rel E l r f (mul g x) := by
  unfold Rel at h ⊢
  rw [if_pos hl] at h ⊢
  split at h
  · rename_i hr
    obtain ⟨a, ha, b, hb, rfl⟩ := h
    rw [if_pos hr]
    exact ⟨_, hm.mulE _ hg _ ha, b, hb, hm.assoc hg ha⟩
  · rename_i hr
    obtain ⟨a, ha, rfl⟩ := h
    rw [if_neg hr]
    exact ⟨_, hm.mulE _ hg _ ha, hm.assoc hg ha⟩
theorem Rel.right (hm : Mnd n E) (hf : f ∈ E) (hg : g ∈ E) (hr : r = true) (h : Rel E l r f x) : Rel E l r f (mul x g) := by
  unfold Rel at h ⊢
  split at h
  · rename_i hl
    obtain ⟨a, ha, b, hb, rfl⟩ := h
    rw [if_pos hl, if_pos hr]
    exact ⟨a, ha, _, hm.mulE _ hb _ hg, by rw [hm.assoc ha (hm.mulE _ hf _ hb), hm.assoc hf hb]⟩
  · rename_i hl
    obtain ⟨a, ha, rfl⟩ := h
    rw [if_neg hl, if_pos hr]
    exact ⟨_, hm.mulE _ ha _ hg, (hm.assoc hf ha).symm⟩
theorem Rel.mem (hm : Mnd n E) (hf : f ∈ E) (h : Rel E l r f x) : x ∈ E := by
  unfold Rel at h
  split at h
  · split at h
    · exact h.mem hm hf
    · exact h.mem hm hf
  · split at h
    · exact h.mem hm hf
    · exact h ▸ hf
end
/-! ### numbers of classes -/
def relB (E : List M) (l r : Bool) (i k : Nat) : Bool := decide (Rel E l r (gm E i) (gm E k))
def bothB (E : List M) (l r : Bool) (i k : Nat) : Bool := relB E l r i k && relB E l r k i
def sameK (E : List M) (kind : Int) (i k : Nat) : Bool :=
  if kind = 0 then decide (eqL E (gm E i) (gm E k)) else if kind = 1 then decide (eqR E (gm E i) (gm E k)) else if kind = 2 then decide (eqH E (gm E i) (gm E k)) else decide (eqJ E (gm E i) (gm E k))
def clsK (E : List M) (kind : Int) : List Int := (nm (sameK E kind) E.length).1
def cntK (E : List M) (kind : Int) : Int := (nm (sameK E kind) E.length).2
theorem sameK_0 (E : List M) (i k : Nat) : sameK E 0 i k = decide (eqL E (gm E i) (gm E k)) := by simp [sameK]
theorem sameK_1 (E : List M) (i k : Nat) : sameK E 1 i k = decide (eqR E (gm E i) (gm E k)) := by simp [sameK]
theorem sameK_2 (E : List M) (i k : Nat) : sameK E 2 i k = decide (eqH E (gm E i) (gm E k)) := by simp [sameK]
theorem sameK_3 (E : List M) (i k : Nat) : sameK E 3 i k = decide (eqJ E (gm E i) (gm E k)) := by simp [sameK]
theorem bothB_L (E : List M) (i k : Nat) : bothB E true false i k = sameK E 0 i k := by
  rw [sameK_0, Bool.eq_iff_iff, decide_eq_true_eq]; simp [bothB, relB, Rel, eqL]
theorem bothB_R (E : List M) (i k : Nat) : bothB E false true i k = sameK E 1 i k := by
  rw [sameK_1, Bool.eq_iff_iff, decide_eq_true_eq]; simp [bothB, relB, Rel, eqR]
theorem bothB_J (E : List M) (i k : Nat) : bothB E true true i k = sameK E 3 i k := by
  rw [sameK_3, Bool.eq_iff_iff, decide_eq_true_eq]; simp [bothB, relB, Rel, eqJ]
section
variable {E : List M} {n : Int}
theorem sameK_refl (hm : Mnd n E) (kind : Int) {i : Nat} (hi : i < E.length) : sameK E kind i i = true := by
  have h := gm_mem hi
  unfold sameK
  split
  · exact decide_eq_true (eqL.refl hm h)
  · split
    · exact decide_eq_true (eqR.refl hm h)
    · split
      · exact decide_eq_true (eqH.refl hm h)
      · exact decide_eq_true (eqJ.refl hm h)
theorem sameK_symm (kind : Int) {i k : Nat} (h : sameK E kind i k = true) : sameK E kind k i = true := by
  unfold sameK at h ⊢
  split at h
  · rename_i e; rw [if_pos e]; exact decide_eq_true (of_decide_eq_true h).symm
  · rename_i e; rw [if_neg e]
    split at h
    · rename_i e; rw [if_pos e]; exact decide_eq_true (of_decide_eq_true h).symm
    · rename_i e; rw [if_neg e]
      split at h
      · rename_i e; rw [if_pos e]; exact decide_eq_true (of_decide_eq_true h).symm
      · rename_i e; rw [if_neg e]; exact decide_eq_true (of_decide_eq_true h).symm
theorem sameK_trans (hm : Mnd n E) (kind : Int) {i j k : Nat} (hi : i < E.length) (h1 : sameK E kind i j = true) (h2 : sameK E kind j k = true) : sameK E kind i k = true := by
  have hmi := gm_mem hi
  unfold sameK at h1 h2 ⊢
  by_cases e0 : kind = 0
  · rw [if_pos e0] at h1 h2 ⊢; exact decide_eq_true ((of_decide_eq_true h1).trans hm (of_decide_eq_true h2))
  · rw [if_neg e0] at h1 h2 ⊢
    by_cases e1 : kind = 1
    · rw [if_pos e1] at h1 h2 ⊢; exact decide_eq_true ((of_decide_eq_true h1).trans hm hmi (of_decide_eq_true h2))
    · rw [if_neg e1] at h1 h2 ⊢
      by_cases e2 : kind = 2
      · rw [if_pos e2] at h1 h2 ⊢; exact decide_eq_true ((of_decide_eq_true h1).trans hm hmi (of_decide_eq_true h2))
      · rw [if_neg e2] at h1 h2 ⊢; exact decide_eq_true ((of_decide_eq_true h1).trans hm hmi (of_decide_eq_true h2))
theorem clsK_length (E : List M) (kind : Int) : (clsK E kind).length = E.length := nm_length _ _
theorem clsK_eq (hm : Mnd n E) (kind : Int) {i k : Nat} (hi : i < E.length) (hk : k < E.length) : gi (clsK E kind) i = gi (clsK E kind) k ↔ sameK E kind i k = true :=
  nm_same (fun _ ha => sameK_refl hm kind ha) (fun _ _ _ _ h => sameK_symm kind h) (fun _ _ _ ha _ _ h1 h2 => sameK_trans hm kind ha h1 h2) E.length (Nat.le_refl _) i k hi hk
theorem clsK_val (E : List M) (kind : Int) {i : Nat} (hi : i < E.length) : 0 ≤ gi (clsK E kind) i ∧ gi (clsK E kind) i < cntK E kind := nm_val _ _ _ hi
theorem cntK_bd (E : List M) (kind : Int) : 0 ≤ cntK E kind ∧ cntK E kind ≤ E.length := nm_bd _ _
theorem full_same (hm : Mnd n E) {i k : Nat} (hi : i < E.length) (hk : k < E.length) : (decide (gi (clsK E 0) i = gi (clsK E 0) k) && decide (gi (clsK E 1) i = gi (clsK E 1) k)) = sameK E 2 i k := by
  rw [Bool.eq_iff_iff]
  simp only [Bool.and_eq_true, decide_eq_true_eq]
  rw [clsK_eq hm 0 hi hk, clsK_eq hm 1 hi hk, sameK_0, sameK_1, sameK_2, decide_eq_true_eq, decide_eq_true_eq, decide_eq_true_eq]
  rfl
theorem RR_set (hm : Mnd n E) {f g : M} (hf : f ∈ E) (hg : g ∈ E) : (∀ j, j < E.length → (RR E f (gm E j) ↔ RR E g (gm E j))) ↔ eqR E f g := by
  constructor
  · intro h
    have h1 := (h _ (ix_lt hg)); rw [gm_ix hg] at h1
    have h2 := (h _ (ix_lt hf)); rw [gm_ix hf] at h2
    exact ⟨h1.2 (RR.refl hm hg), h2.1 (RR.refl hm hf)⟩
  · intro h j _
    exact ⟨fun h1 => h.2.trans hm hg h1, fun h1 => h.1.trans hm hf h1⟩
theorem LL_set (hm : Mnd n E) {f g : M} (hf : f ∈ E) (hg : g ∈ E) : (∀ j, j < E.length → (LL E f (gm E j) ↔ LL E g (gm E j))) ↔ eqL E f g := by
  constructor
  · intro h
    have h1 := (h _ (ix_lt hg)); rw [gm_ix hg] at h1
    have h2 := (h _ (ix_lt hf)); rw [gm_ix hf] at h2
    exact ⟨h1.2 (LL.refl hm hg), h2.1 (LL.refl hm hf)⟩
  · intro h j _
    exact ⟨fun h1 => h.2.trans hm h1, fun h1 => h.1.trans hm h1⟩
theorem JJ_set (hm : Mnd n E) {f g : M} (hf : f ∈ E) (hg : g ∈ E) : (∀ j, j < E.length → (JJ E f (gm E j) ↔ JJ E g (gm E j))) ↔ eqJ E f g := by
  constructor
  · intro h
    have h1 := (h _ (ix_lt hg)); rw [gm_ix hg] at h1
    have h2 := (h _ (ix_lt hf)); rw [gm_ix hf] at h2
    exact ⟨h1.2 (JJ.refl hm hg), h2.1 (JJ.refl hm hf)⟩
  · intro h j _
    exact ⟨fun h1 => h.2.trans hm hg h1, fun h1 => h.1.trans hm hf h1⟩
theorem JJ_iff (hm : Mnd n E) {f g : M} (hf : f ∈ E) : JJ E f g ↔ ∃ k, k < E.length ∧ RR E f (gm E k) ∧ LL E (gm E k) g := by
  constructor
  · rintro ⟨x, hx, y, hy, rfl⟩
    have h := hm.mulE _ hf _ hy
    exact ⟨_, ix_lt h, by rw [gm_ix h]; exact ⟨y, hy, rfl⟩, by rw [gm_ix h]; exact ⟨x, hx, rfl⟩⟩
  · rintro ⟨k, hk, ⟨y, hy, e⟩, ⟨x, hx, rfl⟩⟩
    exact ⟨x, hx, y, hy, by rw [e]⟩
end
set_option maxRecDepth 100000
def mxTo (g : Nat → Nat) : Nat → Nat
  | 0 => 0
  | k + 1 => max (mxTo g k) (g k)
theorem mxTo_le {g : Nat → Nat} {b : Nat} : ∀ {k : Nat}, (∀ j, j < k → g j ≤ b) → mxTo g k ≤ b
  | 0, _ => Nat.zero_le _
  | k + 1, h => by
    have h1 := mxTo_le (k := k) fun j hj => h j (by omega)
    have h2 := h k (by omega)
    rw [mxTo]; omega
theorem le_mxTo {g : Nat → Nat} : ∀ {k j : Nat}, j < k → g j ≤ mxTo g k
  | 0, _, h => by omega
  | k + 1, j, h => by
    rw [mxTo]
    by_cases e : j = k
    · subst e; omega
    · have := le_mxTo (g := g) (k := k) (j := j) (by omega); omega
theorem mxTo_congr {g g' : Nat → Nat} : ∀ {k : Nat}, (∀ j, j < k → g j = g' j) → mxTo g k = mxTo g' k
  | 0, _ => rfl
  | k + 1, h => by rw [mxTo, mxTo, mxTo_congr (k := k) fun j hj => h j (by omega), h k (by omega)]
theorem mxTo_get {g : Nat → Nat} : ∀ {k : Nat}, 0 < mxTo g k → ∃ j, j < k ∧ g j = mxTo g k
  | 0, h => by simp [mxTo] at h
  | k + 1, h => by
    rw [mxTo] at h ⊢
    by_cases e : mxTo g k ≤ g k
    · exact ⟨k, by omega, by omega⟩
    · obtain ⟨j, hj, e2⟩ := mxTo_get (g := g) (k := k) (by omega)
      exact ⟨j, by omega, by omega⟩
section
variable (u : Nat → Nat → Bool) (N : Nat)
def dpF : Nat → Nat → Nat
  | 0, _ => 0
  | m + 1, i => 1 + mxTo (fun k => if u i k then dpF m k else 0) N
structure Down (mu : Nat → Nat) : Prop where
  dn : ∀ i k, i < N → k < N → u i k = true → mu k < mu i
  pos : ∀ i, i < N → 0 < mu i
end
section
variable {u : Nat → Nat → Bool} {N : Nat} {mu : Nat → Nat}
theorem dpF_stable (h : Down u N mu) : ∀ (b m m' i : Nat), i < N → mu i ≤ b → mu i ≤ m → mu i ≤ m' → dpF u N m i = dpF u N m' i
  | 0, _, _, i, hi, hb, _, _ => by have := h.pos i hi; omega
  | b + 1, m, m', i, hi, hb, h1, h2 => by
    have hp := h.pos i hi
    obtain ⟨m, rfl⟩ : ∃ a, m = a + 1 := ⟨m - 1, by omega⟩
    obtain ⟨m', rfl⟩ : ∃ a, m' = a + 1 := ⟨m' - 1, by omega⟩
    rw [dpF, dpF]
    congr 1
    refine mxTo_congr fun k hk => ?_
    split
    · rename_i hu
      have := h.dn i k hi hk hu
      exact dpF_stable h b m m' k hk (by omega) (by omega) (by omega)
    · rfl
def dep (u : Nat → Nat → Bool) (N : Nat) (mu : Nat → Nat) (i : Nat) : Nat := dpF u N (mu i) i
theorem dep_eq (h : Down u N mu) {i : Nat} (hi : i < N) : dep u N mu i = 1 + mxTo (fun k => if u i k then dep u N mu k else 0) N := by
  have hp := h.pos i hi
  obtain ⟨m, hm⟩ : ∃ a, mu i = a + 1 := ⟨mu i - 1, by omega⟩
  rw [dep, hm, dpF]
  congr 1
  refine mxTo_congr fun k hk => ?_
  split
  · rename_i hu
    have := h.dn i k hi hk hu
    exact dpF_stable h (mu k) m (mu k) k hk (Nat.le_refl _) (by omega) (Nat.le_refl _)
  · rfl
theorem dep_pos (h : Down u N mu) {i : Nat} (hi : i < N) : 0 < dep u N mu i := by rw [dep_eq h hi]; omega
theorem dep_le (h : Down u N mu) : ∀ (b i : Nat), i < N → mu i ≤ b → dep u N mu i ≤ mu i
  | 0, i, hi, hb => by have := h.pos i hi; omega
  | b + 1, i, hi, hb => by
    have hp := h.pos i hi
    rw [dep_eq h hi]
    have : mxTo (fun k => if u i k then dep u N mu k else 0) N ≤ mu i - 1 := mxTo_le fun k hk => by
      split
      · rename_i hu
        have h1 := h.dn i k hi hk hu
        have h2 := dep_le h b k hk (by omega)
        omega
      · omega
    omega
theorem dep_cases (h : Down u N mu) {i : Nat} (hi : i < N) : dep u N mu i = 1 ∨ ∃ k, k < N ∧ u i k = true ∧ dep u N mu i = dep u N mu k + 1 := by
  rw [dep_eq h hi]
  rcases Nat.eq_zero_or_pos (mxTo (fun k => if u i k then dep u N mu k else 0) N) with h0 | h0
  · left; omega
  · right
    obtain ⟨k, hk, e⟩ := mxTo_get h0
    rw [← e] at h0 ⊢
    cases hu : u i k with
    | false => simp [hu] at h0
    | true => exact ⟨k, hk, hu, by simp [hu]; omega⟩
theorem dep_same (h : Down u N mu) {i k : Nat} (hi : i < N) (hk : k < N) (he : ∀ j, j < N → u i j = u k j) : dep u N mu i = dep u N mu k := by
  rw [dep_eq h hi, dep_eq h hk]
  congr 1
  exact mxTo_congr fun j hj => by rw [he j hj]
/-! ### rounds that raise values up to the depth -/
structure Low (cls : Nat → Nat) (u : Nat → Nat → Bool) (N : Nat) (mu : Nat → Nat) (D : Nat → Nat) : Prop where
  le : ∀ i, i < N → D (cls i) ≤ dep u N mu i
def own (cls : Nat → Nat) (u : Nat → Nat → Bool) (N : Nat) (D : Nat → Nat) (i : Nat) : Nat := 1 + mxTo (fun k => if u i k then D (cls k) else 0) N
theorem own_le (h : Down u N mu) {cls : Nat → Nat} {D : Nat → Nat} (hL : Low cls u N mu D) {i : Nat} (hi : i < N) : own cls u N D i ≤ dep u N mu i := by
  rw [dep_eq h hi, own]
  have : mxTo (fun k => if u i k then D (cls k) else 0) N ≤ mxTo (fun k => if u i k then dep u N mu k else 0) N := mxTo_le fun k hk => by
    have h1 := le_mxTo (g := fun k => if u i k then dep u N mu k else 0) hk
    by_cases hu : u i k = true
    · simp only [hu, if_true] at h1 ⊢
      exact Nat.le_trans (hL.le k hk) h1
    · simp [hu]
  omega
theorem own_ge (h : Down u N mu) {cls : Nat → Nat} {D : Nat → Nat} {r i : Nat} (hi : i < N) (hr : ∀ k, k < N → min (dep u N mu k) r ≤ D (cls k)) : min (dep u N mu i) (r + 1) ≤ own cls u N D i := by
  unfold own
  rcases dep_cases h hi with e | ⟨k, hk, hu, e⟩
  · omega
  · have h1 := le_mxTo (g := fun k => if u i k then D (cls k) else 0) hk
    simp only [hu, if_true] at h1
    have := hr k hk
    omega
theorem fix_eq (h : Down u N mu) {cls : Nat → Nat} {D : Nat → Nat} (hL : Low cls u N mu D) (hf : ∀ i, i < N → own cls u N D i ≤ D (cls i)) : ∀ (b i : Nat), i < N → mu i ≤ b → D (cls i) = dep u N mu i
  | 0, i, hi, hb => by have := h.pos i hi; omega
  | b + 1, i, hi, hb => by
    have h1 := hL.le i hi
    have h2 := hf i hi
    unfold own at h2
    rcases dep_cases h hi with e | ⟨k, hk, hu, e⟩
    · omega
    · have h3 := le_mxTo (g := fun k => if u i k then D (cls k) else 0) hk
      simp only [hu, if_true] at h3
      have h4 := fix_eq h hL hf b k hk (by have := h.dn i k hi hk hu; omega)
      omega
end
/-! ### elements under others -/
section
variable {E : List M} {n : Int}
def underB (E : List M) (i k : Nat) : Bool := decide (JJ E (gm E i) (gm E k)) && !decide (eqJ E (gm E i) (gm E k))
def muJ (E : List M) (i : Nat) : Nat := ((List.range E.length).filter fun (c : Nat) => (List.range E.length).any fun k => decide (gi (clsK E 3) k = (c : Int)) && decide (JJ E (gm E i) (gm E k))).length
theorem filter_lt {p q : Nat → Bool} {l : List Nat} (h : ∀ x ∈ l, p x = true → q x = true) {a : Nat} (ha : a ∈ l) (hq : q a = true) (hp : p a = false) : (l.filter p).length < (l.filter q).length := by
  induction l with
  | nil => simp at ha
  | cons b l ih =>
    have hle : ∀ l' : List Nat, (∀ x ∈ l', p x = true → q x = true) → (l'.filter p).length ≤ (l'.filter q).length := by
      intro l' hl'
      induction l' with
      | nil => simp
      | cons c l' ih' =>
        have h1 := ih' fun x hx => hl' x (List.mem_cons_of_mem _ hx)
        have h2 := hl' c (by simp)
        rw [List.filter_cons, List.filter_cons]
        cases hpc : p c
        · cases hqc : q c <;> simp <;> omega
        · simp [h2 hpc]; omega
    rcases List.mem_cons.1 ha with rfl | ha
    · have := hle l fun x hx => h x (List.mem_cons_of_mem _ hx)
      rw [List.filter_cons, List.filter_cons]
      simp [hq, hp]; omega
    · have h1 := ih (fun x hx => h x (List.mem_cons_of_mem _ hx)) ha
      have h2 := h b (by simp)
      rw [List.filter_cons, List.filter_cons]
      cases hpb : p b
      · cases hqb : q b <;> simp <;> omega
      · simp [h2 hpb]; omega
theorem downJ (hm : Mnd n E) : Down (underB E) E.length (muJ E) := by
  have hcl : ∀ k, k < E.length → ∃ c : Nat, c < E.length ∧ gi (clsK E 3) k = (c : Int) := fun k hk => by
    have h1 := clsK_val E 3 hk
    have h2 := cntK_bd E 3
    exact ⟨(gi (clsK E 3) k).toNat, by omega, by omega⟩
  refine ⟨fun i k hi hk hu => ?_, fun i hi => ?_⟩
  · unfold underB at hu
    simp only [Bool.and_eq_true, decide_eq_true_eq, Bool.not_eq_true', decide_eq_false_iff_not] at hu
    obtain ⟨h1, h2⟩ := hu
    obtain ⟨c, hc, e⟩ := hcl i hi
    unfold muJ
    refine filter_lt (a := c) (fun x _ hp => ?_) (List.mem_range.2 hc) ?_ ?_
    · rw [List.any_eq_true] at hp ⊢
      obtain ⟨j, hj, hp⟩ := hp
      simp only [Bool.and_eq_true, decide_eq_true_eq] at hp
      refine ⟨j, hj, ?_⟩
      simp only [Bool.and_eq_true, decide_eq_true_eq]
      exact ⟨hp.1, h1.trans hm (gm_mem hi) hp.2⟩
    · rw [List.any_eq_true]
      refine ⟨i, List.mem_range.2 hi, ?_⟩
      simp only [Bool.and_eq_true, decide_eq_true_eq]
      exact ⟨e, JJ.refl hm (gm_mem hi)⟩
    · rw [List.any_eq_false]
      intro j hj hp
      simp only [Bool.and_eq_true, decide_eq_true_eq] at hp
      have hj := List.mem_range.1 hj
      have he : gi (clsK E 3) i = gi (clsK E 3) j := by rw [e, hp.1]
      rw [clsK_eq hm 3 hi hj, sameK_3, decide_eq_true_eq] at he
      exact h2 ⟨h1, hp.2.trans hm (gm_mem hk) he.2⟩
  · obtain ⟨c, hc, e⟩ := hcl i hi
    unfold muJ
    refine List.length_pos_of_mem (a := c) (List.mem_filter.2 ⟨List.mem_range.2 hc, ?_⟩)
    rw [List.any_eq_true]
    refine ⟨i, List.mem_range.2 hi, ?_⟩
    simp only [Bool.and_eq_true, decide_eq_true_eq]
    exact ⟨e, JJ.refl hm (gm_mem hi)⟩
theorem muJ_le (E : List M) {i : Nat} : (muJ E i : Int) ≤ cntK E 3 := by
  have hb := cntK_bd E 3
  have h : ((List.range E.length).filter fun (c : Nat) => (List.range E.length).any fun k => decide (gi (clsK E 3) k = (c : Int)) && decide (JJ E (gm E i) (gm E k))).length ≤ (List.range (cntK E 3).toNat).length := by
    refine nodup_sub_len (List.Pairwise.filter _ List.nodup_range) fun c hc => ?_
    have hc := (List.mem_filter.1 hc).2
    rw [List.any_eq_true] at hc
    obtain ⟨k, hk, hc⟩ := hc
    simp only [Bool.and_eq_true, decide_eq_true_eq] at hc
    have := (clsK_val E 3 (List.mem_range.1 hk)).2
    rw [List.mem_range]
    omega
  rw [List.length_range] at h
  unfold muJ
  omega
def depJ (E : List M) (i : Nat) : Nat := dep (underB E) E.length (muJ E) i
def depM (E : List M) : Nat := mxTo (depJ E) E.length
theorem underB_same (hm : Mnd n E) {i k : Nat} (hi : i < E.length) (hk : k < E.length) (h : sameK E 3 i k = true) : ∀ j, j < E.length → underB E i j = underB E k j := by
  intro j hj
  rw [sameK_3, decide_eq_true_eq] at h
  have hj := gm_mem hj
  have hi := gm_mem hi
  have hk := gm_mem hk
  unfold underB
  rw [Bool.eq_iff_iff]
  simp only [Bool.and_eq_true, decide_eq_true_eq, Bool.not_eq_true', decide_eq_false_iff_not]
  exact ⟨fun ⟨a, b⟩ => ⟨h.2.trans hm hk a, fun c => b (h.trans hm hi c)⟩, fun ⟨a, b⟩ => ⟨h.1.trans hm hi a, fun c => b (h.symm.trans hm hk c)⟩⟩
theorem depJ_same (hm : Mnd n E) {i k : Nat} (hi : i < E.length) (hk : k < E.length) (h : sameK E 3 i k = true) : depJ E i = depJ E k :=
  dep_same (downJ hm) hi hk (underB_same hm hi hk h)
theorem under_cls (hm : Mnd n E) {i k : Nat} (hi : i < E.length) (hk : k < E.length) : (relB E true true i k && !decide (gi (clsK E 3) k = gi (clsK E 3) i)) = underB E i k := by
  have he : gi (clsK E 3) k = gi (clsK E 3) i ↔ eqJ E (gm E i) (gm E k) := by
    rw [eq_comm, clsK_eq hm 3 hi hk, sameK_3, decide_eq_true_eq]
  unfold underB relB
  rw [Bool.eq_iff_iff]
  simp only [Bool.and_eq_true, decide_eq_true_eq, Bool.not_eq_true', decide_eq_false_iff_not]
  rw [he]
  simp [Rel]
end
set_option maxRecDepth 100000
/-! ### sets as words -/
def wdTo (p : Nat → Bool) (b : Nat) : Nat → Nat
  | 0 => 0
  | k + 1 => wdTo p b k ||| (if p (b + k) then 2 ^ k else 0)
theorem wdTo_bit (p : Nat → Bool) (b i : Nat) : ∀ k, (wdTo p b k).testBit i = (decide (i < k) && p (b + i))
  | 0 => by simp [wdTo]
  | k + 1 => by
    rw [wdTo, Nat.testBit_or, wdTo_bit p b i k]
    by_cases e : i = k
    · subst e
      cases hp : p (b + i) <;> simp
    · have h1 : (if p (b + k) = true then 2 ^ k else 0).testBit i = false := by
        split
        · rw [Nat.testBit_two_pow]; exact decide_eq_false (Ne.symm e)
        · simp
      rw [h1, Bool.or_false]
      congr 1
      rw [Bool.eq_iff_iff]; simp only [decide_eq_true_eq]; omega
theorem wdTo_lt (p : Nat → Bool) (b : Nat) : ∀ k, wdTo p b k < 2 ^ k
  | 0 => by simp [wdTo]
  | k + 1 => by
    have h := wdTo_lt p b k
    have h2 : 2 ^ k < 2 ^ (k + 1) := Nat.pow_lt_pow_right (by decide) (by omega)
    rw [wdTo]
    refine Nat.or_lt_two_pow (by omega) ?_
    split <;> omega
def wd (p : Nat → Bool) (q : Nat) : Nat := wdTo p (64 * q) 64
theorem wd_lt (p : Nat → Bool) (q : Nat) : wd p q < 18446744073709551616 := wdTo_lt p (64 * q) 64
theorem wd_bit (p : Nat → Bool) (q : Nat) {i : Nat} (hi : i < 64) : (wd p q).testBit i = p (64 * q + i) := by
  rw [wd, wdTo_bit, decide_eq_true hi, Bool.true_and]
theorem wd_far (p : Nat → Bool) (q : Nat) {i : Nat} (hi : ¬ i < 64) : (wd p q).testBit i = false := by
  rw [wd, wdTo_bit, decide_eq_false hi, Bool.false_and]
theorem wd_ext {p p' : Nat → Bool} {q : Nat} (h : ∀ i, i < 64 → p (64 * q + i) = p' (64 * q + i)) : wd p q = wd p' q := by
  refine Nat.eq_of_testBit_eq fun i => ?_
  by_cases hi : i < 64
  · rw [wd_bit p q hi, wd_bit p' q hi, h i hi]
  · rw [wd_far p q hi, wd_far p' q hi]
theorem wd_inj {p p' : Nat → Bool} {q : Nat} (h : wd p q = wd p' q) {i : Nat} (hi : i < 64) : p (64 * q + i) = p' (64 * q + i) := by
  rw [← wd_bit p q hi, ← wd_bit p' q hi, h]
theorem wd_or (p p' : Nat → Bool) (q : Nat) : wd p q ||| wd p' q = wd (fun j => p j || p' j) q := by
  refine Nat.eq_of_testBit_eq fun i => ?_
  rw [Nat.testBit_or]
  by_cases hi : i < 64
  · rw [wd_bit _ q hi, wd_bit _ q hi, wd_bit _ q hi]
  · rw [wd_far _ q hi, wd_far _ q hi, wd_far _ q hi]; rfl
theorem wd_put (p : Nat → Bool) (j : Nat) : wd p (j / 64) ||| 2 ^ (j % 64) = wd (fun i => p i || decide (i = j)) (j / 64) := by
  have hm : j % 64 < 64 := Nat.mod_lt _ (by decide)
  refine Nat.eq_of_testBit_eq fun i => ?_
  rw [Nat.testBit_or, Nat.testBit_two_pow]
  by_cases hi : i < 64
  · rw [wd_bit _ _ hi, wd_bit _ _ hi]
    congr 1
    rw [Bool.eq_iff_iff]; simp only [decide_eq_true_eq]; omega
  · rw [wd_far _ _ hi, wd_far _ _ hi, Bool.false_or]
    exact decide_eq_false (by omega)
theorem wd_else (p : Nat → Bool) (j : Nat) {q : Nat} (hq : q ≠ j / 64) : wd (fun i => p i || decide (i = j)) q = wd p q :=
  wd_ext fun i hi => by
    have : ¬ 64 * q + i = j := by omega
    simp [this]
theorem wd_none (q : Nat) : wd (fun _ => false) q = 0 := by
  refine Nat.eq_of_testBit_eq fun i => ?_
  by_cases hi : i < 64
  · rw [wd_bit _ q hi]; simp
  · rw [wd_far _ q hi]; simp
abbrev U (n : Nat) : Value := .int .u64 n
abbrev sc (p : Nat → Bool) : Array Value := #[U (wd p 0), U (wd p 1), U (wd p 2), U (wd p 3), U (wd p 4)]
theorem sc_get (p : Nat → Bool) {q : Nat} (hq : q < 5) : (sc p)[q]? = some (U (wd p q)) :=
  five (P := fun q => (sc p)[q]? = some (U (wd p q))) rfl rfl rfl rfl rfl q hq
def setEq (p p' : Nat → Bool) : Bool := (List.range 320).all fun j => p j == p' j
theorem setEq_iff (p p' : Nat → Bool) : setEq p p' = true ↔ ∀ j, j < 320 → p j = p' j := by
  simp [setEq]
theorem setEq_wd (p p' : Nat → Bool) : setEq p p' = (wd p 0 == wd p' 0 && (wd p 1 == wd p' 1 && (wd p 2 == wd p' 2 && (wd p 3 == wd p' 3 && wd p 4 == wd p' 4)))) := by
  rw [Bool.eq_iff_iff, setEq_iff]
  simp only [Bool.and_eq_true, beq_iff_eq]
  constructor
  · intro h
    exact ⟨wd_ext fun i hi => h _ (by omega), wd_ext fun i hi => h _ (by omega), wd_ext fun i hi => h _ (by omega), wd_ext fun i hi => h _ (by omega), wd_ext fun i hi => h _ (by omega)⟩
  · rintro ⟨h0, h1, h2, h3, h4⟩ j hj
    have e : j = 64 * (j / 64) + j % 64 := by omega
    have hm : j % 64 < 64 := by omega
    have hq : j / 64 = 0 ∨ j / 64 = 1 ∨ j / 64 = 2 ∨ j / 64 = 3 ∨ j / 64 = 4 := by omega
    rw [e]
    rcases hq with hq | hq | hq | hq | hq <;> rw [hq]
    · exact wd_inj h0 hm
    · exact wd_inj h1 hm
    · exact wd_inj h2 hm
    · exact wd_inj h3 hm
    · exact wd_inj h4 hm
/-! ### the sets of ideals -/
section
variable {E : List M} {n : Int}
def rSet (E : List M) (i : Nat) (j : Nat) : Bool := decide (j < E.length) && decide (RR E (gm E i) (gm E j))
def lSet (E : List M) (i : Nat) (j : Nat) : Bool := decide (j < E.length) && decide (LL E (gm E i) (gm E j))
def jSet (E : List M) (i : Nat) (j : Nat) : Bool := decide (j < E.length) && decide (JJ E (gm E i) (gm E j))
theorem ideal_eq {P Q : Nat → Prop} [DecidablePred P] [DecidablePred Q] {N : Nat} (hN : N ≤ 300) : setEq (fun j => decide (j < N) && decide (P j)) (fun j => decide (j < N) && decide (Q j)) = true ↔ ∀ j, j < N → (P j ↔ Q j) := by
  rw [setEq_iff]
  constructor
  · intro h j hj
    have := h j (by omega)
    simpa [hj] using this
  · intro h j _
    by_cases hj : j < N
    · simp [hj, h j hj]
    · simp [hj]
theorem rSet_eq (hm : Mnd n E) (hN : E.length ≤ 300) {i k : Nat} (hi : i < E.length) (hk : k < E.length) : setEq (rSet E i) (rSet E k) = sameK E 1 i k := by
  rw [Bool.eq_iff_iff, sameK_1, decide_eq_true_eq, ← RR_set hm (gm_mem hi) (gm_mem hk)]
  exact ideal_eq hN
theorem lSet_eq (hm : Mnd n E) (hN : E.length ≤ 300) {i k : Nat} (hi : i < E.length) (hk : k < E.length) : setEq (lSet E i) (lSet E k) = sameK E 0 i k := by
  rw [Bool.eq_iff_iff, sameK_0, decide_eq_true_eq, ← LL_set hm (gm_mem hi) (gm_mem hk)]
  exact ideal_eq hN
theorem jSet_eq (hm : Mnd n E) (hN : E.length ≤ 300) {i k : Nat} (hi : i < E.length) (hk : k < E.length) : setEq (jSet E i) (jSet E k) = sameK E 3 i k := by
  rw [Bool.eq_iff_iff, sameK_3, decide_eq_true_eq, ← JJ_set hm (gm_mem hi) (gm_mem hk)]
  exact ideal_eq hN
/-! ### the grid -/
theorem range_gm (E : List M) : (List.range E.length).map (gm E) = E := by
  refine List.ext_getElem (by simp) fun i h1 h2 => ?_
  simp [gm_eq h2]
def hCnt (E : List M) (a : Nat) : Nat := ((List.range E.length).filter fun i => sameK E 2 i a).length
theorem hCnt_nH {a : Nat} : hCnt E a = nH E (gm E a) := by
  unfold hCnt nH
  conv => rhs; rw [← range_gm E]
  rw [List.filter_map, List.length_map]
  congr 1
  refine List.filter_congr fun i _ => ?_
  rw [sameK_2, range_gm]
  rfl
def jList (E : List M) (a : Nat) : List Nat := (List.range E.length).filter fun i => sameK E 3 i a
def rowsOf (E : List M) (a : Nat) : List Int := dst [] ((jList E a).map (gi (clsK E 1)))
def colsOf (E : List M) (a : Nat) : List Int := dst [] ((jList E a).map (gi (clsK E 0)))
theorem jList_mem {E : List M} {a i : Nat} : i ∈ jList E a ↔ i < E.length ∧ sameK E 3 i a = true := by
  unfold jList; rw [List.mem_filter, List.mem_range]
theorem grid_mul (hm : Mnd n E) {a : Nat} (ha : a < E.length) : (jList E a).length = (rowsOf E a).length * (colsOf E a).length * hCnt E a := by
  have hks : ((rowsOf E a).flatMap fun x => (colsOf E a).map fun y => (x, y)).length = (rowsOf E a).length * (colsOf E a).length := by
    generalize rowsOf E a = X
    generalize colsOf E a = Y
    induction X with
    | nil => simp
    | cons x X ih => rw [List.flatMap_cons, List.length_append, List.length_map, ih, List.length_cons, Nat.succ_mul, Nat.add_comm]
  rw [← hks]
  refine part_len (fun i => (gi (clsK E 1) i, gi (clsK E 0) i)) (hCnt E a) _ _ ?_ ?_ ?_
  · have hx : (rowsOf E a).Nodup := dst_nodup List.nodup_nil
    have hy : (colsOf E a).Nodup := dst_nodup List.nodup_nil
    generalize rowsOf E a = X at hx
    generalize colsOf E a = Y at hy
    induction X with
    | nil => simp
    | cons x X ih =>
      obtain ⟨h1, h2⟩ := List.nodup_cons.1 hx
      rw [List.flatMap_cons, List.nodup_append]
      refine ⟨?_, ih h2, ?_⟩
      · refine List.Pairwise.map _ (fun y y' hne e => hne ?_) hy
        injection e
      · intro p hp q hq e
        subst e
        obtain ⟨y, _, rfl⟩ := List.mem_map.1 hp
        obtain ⟨x', hx', hq⟩ := List.mem_flatMap.1 hq
        obtain ⟨y', _, e⟩ := List.mem_map.1 hq
        injection e with e1 _
        subst e1
        exact h1 hx'
  · intro i hi
    refine List.mem_flatMap.2 ⟨_, dst_mem.2 (.inr (List.mem_map_of_mem hi)), List.mem_map.2 ⟨_, dst_mem.2 (.inr (List.mem_map_of_mem hi)), rfl⟩⟩
  · rintro ⟨x, y⟩ hk0
    obtain ⟨x', hx, hk1⟩ := List.mem_flatMap.1 hk0
    obtain ⟨y', hy, e⟩ := List.mem_map.1 hk1
    injection e with e1 e2
    subst e1 e2
    obtain ⟨i, hi, rfl⟩ := List.mem_map.1 ((dst_mem.1 hx).resolve_left (by simp))
    obtain ⟨k, hk, rfl⟩ := List.mem_map.1 ((dst_mem.1 hy).resolve_left (by simp))
    obtain ⟨hi, si⟩ := jList_mem.1 hi
    obtain ⟨hk, sk⟩ := jList_mem.1 hk
    rw [sameK_3, decide_eq_true_eq] at si sk
    have hmi := gm_mem hi
    have hmk := gm_mem hk
    have hma := gm_mem ha
    obtain ⟨c, hc, hR, hL⟩ := between hm hmi (si.trans hm hmi sk.symm)
    have hct := ix_lt hc
    have hgc := gm_ix hc
    have hJc : eqJ E c (gm E a) := (hR.toJ hm hmi).symm.trans hm hc si
    rw [hCnt_nH, ← nH_J hm hc hJc]
    unfold nH
    conv => rhs; rw [← range_gm E]
    rw [List.filter_map, List.length_map, range_gm]
    unfold jList
    rw [List.filter_filter]
    congr 1
    refine List.filter_congr fun j hj => ?_
    have hj := List.mem_range.1 hj
    have hmj := gm_mem hj
    rw [Bool.eq_iff_iff]
    simp only [Bool.and_eq_true, decide_eq_true_eq, Prod.mk.injEq, Function.comp_apply]
    rw [clsK_eq hm 1 hj hi, clsK_eq hm 0 hj hk, sameK_1, sameK_0, sameK_3, decide_eq_true_eq, decide_eq_true_eq, decide_eq_true_eq]
    constructor
    · rintro ⟨⟨h1, h2⟩, _⟩
      exact ⟨h2.trans hm hL.symm, h1.trans hm hmj hR⟩
    · rintro ⟨h1, h2⟩
      exact ⟨⟨h2.trans hm hmj hR.symm, h1.trans hm hL⟩, (h2.toJ hm hmj).trans hm hmj hJc⟩
theorem jList_self (hm : Mnd n E) {a : Nat} (ha : a < E.length) : a ∈ jList E a := jList_mem.2 ⟨ha, sameK_refl hm 3 ha⟩
theorem rows_pos (hm : Mnd n E) {a : Nat} (ha : a < E.length) : 0 < (rowsOf E a).length :=
  List.length_pos_of_mem (dst_mem.2 (.inr (List.mem_map_of_mem (jList_self hm ha))))
theorem cols_pos (hm : Mnd n E) {a : Nat} (ha : a < E.length) : 0 < (colsOf E a).length :=
  List.length_pos_of_mem (dst_mem.2 (.inr (List.mem_map_of_mem (jList_self hm ha))))
theorem grid_div (hm : Mnd n E) {a : Nat} (ha : a < E.length) : (jList E a).length / ((rowsOf E a).length * (colsOf E a).length) = hCnt E a := by
  rw [grid_mul hm ha]
  exact Nat.mul_div_cancel_left _ (Nat.mul_pos (rows_pos hm ha) (cols_pos hm ha))
end
/-! ### words by length -/
set_option maxRecDepth 100000
def parts (n : Nat) : Nat → Nat → List (List Int)
  | _, 0 => [[]]
  | from_, c + 1 => (List.range' from_ (n - from_)).flatMap fun i => (parts n (i + 1) c).map fun l => (i : Int) :: l
end Go.Proofs.YtkbfocoaobiijaaGreat

namespace Go.Proofs.YtkbfocoaobiijaaGreat
open Go.RowKit
set_option maxRecDepth 100000
abbrev st6at (w : World) (q o : Nat) (m : M) : World := (((((w.setCell ⟨q, o, none⟩ (I m.p)).setCell ⟨q, o + 1, none⟩ (I m.t0)).setCell ⟨q, o + 2, none⟩ (I m.t1)).setCell ⟨q, o + 3, none⟩ (I m.t2)).setCell ⟨q, o + 4, none⟩ (I m.t3)).setCell ⟨q, o + 5, none⟩ (I m.t4)
theorem Rd.st6at {k n B : Nat} {w : World} {A : Option Addr} {cs : List Value} (h : Rd k w B A n cs) {q : Nat} (hB : B ≤ q) (o : Nat) (m : M) : Rd k (Go.Proofs.YtkbfocoaobiijaaGreat.st6at w q o m) B A n cs :=
  (((((h.setCell (p := ⟨q, o, none⟩) hB _).setCell (p := ⟨q, o + 1, none⟩) hB _).setCell (p := ⟨q, o + 2, none⟩) hB _).setCell (p := ⟨q, o + 3, none⟩) hB _).setCell (p := ⟨q, o + 4, none⟩) hB _).setCell (p := ⟨q, o + 5, none⟩) hB _
theorem mcs_set (m : M) : ∀ {ms : List M} {k : Nat}, k < ms.length → mcs (ms.set k m) = ((((((mcs ms).set (k * 6) (I m.p)).set (k * 6 + 1) (I m.t0)).set (k * 6 + 2) (I m.t1)).set (k * 6 + 3) (I m.t2)).set (k * 6 + 4) (I m.t3)).set (k * 6 + 5) (I m.t4)
  | [], _, h => by simp at h
  | m0 :: ms, 0, _ => by simp [mcs]
  | m0 :: ms, k + 1, h => by
    have ih := mcs_set m (ms := ms) (k := k) (by simpa using h)
    have e : ∀ j, (k + 1) * 6 + j = k * 6 + j + 6 := fun j => by omega
    have e0 : (k + 1) * 6 = k * 6 + 6 := by omega
    rw [List.set_cons_succ, mcs_cons, ih, mcs_cons, e0]
    simp only [Nat.add_right_comm (k * 6) 6]
    rfl
theorem OwM.spot {e : TypeId} {w : World} {B : Nat} {v : Value} {ms : List M} (h : OwM e w B v ms) {k : Nat} (hk : k < ms.length) : ∃ g c, v = .slice (some ⟨g, 0, none⟩) ms.length c ∧ B ≤ g ∧ g < w.heap.size ∧ SixAt w g (k * 6) (gm ms k) ∧ (∀ o, w.frozen? ⟨g, o, none⟩ = false) ∧
    ∀ m, OwM e (st6at w g (k * 6) m) B v (ms.set k m) := by
  obtain ⟨A, c, hv, hr⟩ := h.form
  rcases h.2 with ⟨_, h0⟩ | ⟨g, cap, cur, rfl, hg, hh, hn, hm, hs, ht⟩
  · omega
  · injection hv with hA _ _
    obtain ⟨b, off, e1, _, hsix⟩ := hr.at_ hk
    rw [← hA] at e1
    injection e1 with e1
    injection e1 with e1 e2 _
    subst e1 e2
    rw [Nat.zero_add] at hsix
    have hB : Blk w g e cur := hh
    refine ⟨g, cap, rfl, hg, hB.lt, hsix, hB.frozen, fun m => ⟨mcs_length _, .inr ⟨g, cap, _, by rw [List.length_set], hg, (((((hB.set_ _ _).set_ _ _).set_ _ _).set_ _ _).set_ _ _).set_ _ _, by simpa using hn, hm, by simpa using hs, ?_⟩⟩⟩
    simp only [Array.toList_setIfInBounds, List.take_set, List.length_set]
    rw [ht, mcs_set m hk]
theorem OwM.spotAt {e : TypeId} {w : World} {B g n c : Nat} {ms : List M} (h : OwM e w B (.slice (some ⟨g, 0, none⟩) n c) ms) {k : Nat} (hk : k < ms.length) : B ≤ g ∧ g < w.heap.size ∧ SixAt w g (k * 6) (gm ms k) ∧ (∀ o, w.frozen? ⟨g, o, none⟩ = false) ∧
    ∀ m, OwM e (st6at w g (k * 6) m) B (.slice (some ⟨g, 0, none⟩) n c) (ms.set k m) := by
  obtain ⟨g', c', he, hgB, hgl, h6, hfr, hs⟩ := h.spot hk
  injection he with he1 _ he2
  injection he1 with he1
  injection he1 with he1 _
  subst he1
  exact ⟨hgB, hgl, h6, hfr, hs⟩
theorem OwM.nilA {e : TypeId} {w : World} {B n c : Nat} {A : Option Addr} {ms : List M} (h : OwM e w B (.slice A n c) ms) : A = none → n = 0 ∧ c = 0 := by
  rintro rfl
  rcases h.2 with ⟨he, _⟩ | ⟨g, cap, cur, he, _⟩
  · injection he with _ h1 h2
    exact ⟨h1, h2⟩
  · injection he with h1 _ _
    cases h1
end Go.Proofs.YtkbfocoaobiijaaGreat

namespace Go.Proofs.YtkbfocoaobiijaaGreat
open Go.RowKit
set_option maxRecDepth 100000
theorem Clone_any (b off c : Nat) (ys : List Int) (w : World) (hy : RdI w w.heap.size (some ⟨b, off, none⟩) ys) (hpos : 0 < ys.length) (hn : ys.length < 1073741824) :
    Calls Tryz.prog 220 #[.slice (some ⟨b, off, none⟩) ys.length c] w fun e w' => ∃ g cap, e = .returned (.slice (some ⟨g, 0, none⟩) ys.length cap) ∧ OwI 2 w' w.heap.size (.slice (some ⟨g, 0, none⟩) ys.length cap) ys ∧ Below w.heap.size w w' := by
  have hnil := fun w => Lib.run_eql_slice_nil (P := Tryz.prog) w 39 2 (some ⟨b, off, none⟩) ys.length c 0 0 Tryz.underlying39
  go_enter Tryz.func220, Tryz.ntmps220
  go_wp2_with (at_builtin; refine wpList_appI rfl (.tmp 5) (.tmp 6) rfl w.heap.size _ [] rfl (OwI.made' rfl (Nat.le_refl _)) b off c ys rfl (Rd.more (Rd.alloc hy (Nat.le_refl _) _) (by simp)) hpos (by simpa using hn) (by simp) (w.heap.size + 1) (by simp) ?_; intro g' cap w1 hown' hgr hg' hlt')
  go_ret
  refine ⟨g', cap, by simp, by simpa using hown', ?_⟩
  exact (OwI.made' rfl (Nat.le_refl _) : OwI 2 _ w.heap.size _ []).bel (by (repeat (first | with_reducible assumption | with_reducible exact Below.refl _ _ | with_reducible refine Below.setCell ?_ (by first | omega | (simp <;> omega)) _ | with_reducible refine Below.alloc ?_ (by first | omega | (simp <;> omega)) _ | with_reducible refine Below.drew ?_ | with_reducible refine Below.drewN ?_ _))) hgr (Nat.le_refl _) (by simp)
end Go.Proofs.YtkbfocoaobiijaaGreat
