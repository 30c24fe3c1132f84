/- Contracts of the order of maps; the maps are valid where the theorems say so. The monoid of a list of maps in plain words: the maps that are met, by lengths, with their words; the order of maps, sorted lists; no conditions beyond those that each theorem states. Numbers of classes in plain words; no conditions beyond those that each theorem states. The ideals and the classes of Green of a monoid of maps, in plain words; no program, no conditions beyond those that each theorem states. Numbers of maps, places of elements, and what the elements of a monoid are, in plain words; no conditions beyond those that each theorem states. What a search by generators reaches; classes of elements as numbers; no conditions beyond those that each theorem states. The depth of the classes of both sides in plain words; no conditions beyond those that each theorem states. Sets of places as five words of 64 bits; the grid of a class; numbers of words by length; no conditions beyond those that each theorem states. The least generating part of a list in plain words: the least of all parts by number and order, and the first of the parts in order; for lists of at most six. Contracts of the statements' own helpers on lists of maps: sizes, copies, equality; the lists are shorter than 2^30. Contracts of the functions that list the images of a map; no conditions beyond those that each theorem states. Contracts of the functions that look at lists of maps: growing, joining, the codes of lists; no conditions beyond those that each theorem states. -/
import Derived.Test.YtchjegojcpbfpaaGreatQM02
import Derived.Laws.BitsLemmas
import Derived.WalkSpells
import Derived.Lib.AppendZeros
import Derived.Laws.AppendOwnNone
import Derived.Deep.QuietTactic
import Derived.BigQuiet
set_option linter.unusedSimpArgs false
set_option linter.unusedVariables false
namespace Go.Proofs.YtchjegojcpbfpaaGreat
open Go.RowKit
set_option maxRecDepth 100000
theorem gi_imgs (f : M) {k n : Nat} (h : k < n) : gi (imgs f n) k = f.at k := by simp [gi, imgs, List.getD, h]
theorem cmpM_p {f g : M} (h : f.p ≠ g.p) : cmpM f g = cmpI f.p g.p := by rw [cmpM, or2, if_neg (cmpI_ne.2 h)]
theorem cmpM_e {f g : M} (h : f.p = g.p) : cmpM f g = cmpL (imgs f 5) (imgs g 5) := by rw [cmpM, or2, if_pos (cmpI_eq h)]
theorem cmpM_at {f g : M} {k : Nat} (h : f.p = g.p) (hk : k < 5) (he : ∀ j, j < k → f.at j = g.at j) (hn : f.at k ≠ g.at k) : cmpM f g = cmpI (f.at k) (g.at k) := by
  rw [cmpM_e h, cmpL_at (k := k) (by rw [imgs_length]; exact hk) (by rw [imgs_length]; exact hk) (fun j hj => by rw [gi_imgs f (by omega), gi_imgs g (by omega)]; exact he j hj) (by rw [gi_imgs f hk, gi_imgs g hk]; exact hn), gi_imgs f hk, gi_imgs g hk]
theorem cmpM_same {f g : M} (h : f.p = g.p) (he : ∀ j, j < 5 → f.at j = g.at j) : cmpM f g = 0 := by
  rw [cmpM_e h, cmpL_pre fun j h1 _ => by rw [imgs_length] at h1; rw [gi_imgs f h1, gi_imgs g h1]; exact he j h1, imgs_length, imgs_length, cmpI_eq rfl]
theorem cmpM_cases (f g : M) : (f = g ∧ cmpM f g = 0) ∨ (f.p ≠ g.p ∧ cmpM f g = cmpI f.p g.p) ∨ ∃ k, k < 5 ∧ f.p = g.p ∧ (∀ j, j < k → f.at j = g.at j) ∧ f.at k ≠ g.at k ∧ cmpM f g = cmpI (f.at k) (g.at k) := by
  by_cases hp : f.p = g.p
  · by_cases he : ∀ j, j < 5 → f.at j = g.at j
    · exact .inl ⟨M.ext5 hp he, cmpM_same hp he⟩
    · have : ∃ k, k < 5 ∧ f.at k ≠ g.at k := by
        refine Classical.byContradiction fun hc => he fun j hj => Classical.byContradiction fun hne => hc ⟨j, hj, hne⟩
      obtain ⟨k, ⟨hk, hne⟩, hmin⟩ := exists_least this
      have hj : ∀ j, j < k → f.at j = g.at j := fun j hj => Classical.byContradiction fun hc => by have := hmin j ⟨by omega, hc⟩; omega
      exact .inr (.inr ⟨k, hk, hp, hj, hne, cmpM_at hp hk hj hne⟩)
  · exact .inr (.inl ⟨hp, cmpM_p hp⟩)
theorem cmpM_swap (f g : M) : cmpM g f = - cmpM f g := by
  rcases cmpM_cases f g with ⟨rfl, h⟩ | ⟨hp, h⟩ | ⟨k, hk, hp, he, hn, h⟩
  · rw [h]; rfl
  · rw [h, cmpM_p (Ne.symm hp), cmpI_swap]
  · rw [h, cmpM_at hp.symm hk (fun j hj => (he j hj).symm) (Ne.symm hn), cmpI_swap]
theorem cmpM_bd (f g : M) : -1 ≤ cmpM f g ∧ cmpM f g ≤ 1 := by
  rcases cmpM_cases f g with ⟨rfl, h⟩ | ⟨hp, h⟩ | ⟨k, hk, hp, he, hn, h⟩
  · rw [h]; omega
  · rw [h]; exact cmpI_bd _ _
  · rw [h]; exact cmpI_bd _ _
theorem cmpM_zero {f g : M} : cmpM f g = 0 ↔ f = g := by
  constructor
  · intro h0
    rcases cmpM_cases f g with ⟨rfl, h⟩ | ⟨hp, h⟩ | ⟨k, hk, hp, he, hn, h⟩
    · rfl
    · rw [h] at h0; exact absurd h0 (cmpI_ne.2 hp)
    · rw [h] at h0; exact absurd h0 (cmpI_ne.2 hn)
  · rintro rfl; exact cmpM_same rfl fun _ _ => rfl
def lessM (f g : M) : Bool := decide (cmpM f g = -1)
theorem lessM_ne {f g : M} (h : f.p ≠ g.p) : lessM f g = decide (f.p < g.p) := by
  rw [lessM, cmpM_p h, Bool.eq_iff_iff]; simp [cmpI_neg]
theorem lessM_at {f g : M} {k : Nat} (h : f.p = g.p) (hk : k < 5) (he : ∀ j, j < k → f.at j = g.at j) (hn : f.at k ≠ g.at k) : lessM f g = decide (f.at k < g.at k) := by
  rw [lessM, cmpM_at h hk he hn, Bool.eq_iff_iff]; simp [cmpI_neg]
theorem lessM_same {f g : M} (hf : Valid f) (hg : Valid g) (h : f.p = g.p) {k : Nat} (hk : ¬ (k : Int) < f.p) (he : ∀ j, j < k → f.at j = g.at j) : lessM f g = false := by
  rw [lessM, cmpM_same h]
  · rfl
  · intro j hj
    by_cases hj' : j < k
    · exact he j hj'
    · rw [hf.out j hj (by omega), hg.out j hj (by omega)]
theorem l01Less_any (f g : M) (w : World) (hf : Valid f) (hg : Valid g) :
    Calls Tryz.prog 98 #[.agg (mc f), .agg (mc g)] w fun e w' => e = .returned (.bool (lessM f g)) ∧ Below w.heap.size w w' := by
  have hp1 := hf.p1
  have hp5 := hf.p5
  by_cases hp : f.p = g.p
  · have hpb : (f.p != g.p) = false := by simp [hp]
    have Hp := Lib.hid hp
    clear hp
    go_enter Tryz.func98, Tryz.ntmps98
    go_wp2
    go_loopw [5] (fun i wr => ∃ k : Nat, (k : Int) ≤ f.p ∧ i = .int .i64 k ∧ Hid (∀ j, j < k → f.at j = g.at j) ∧ Blk wr w.heap.size 31 (mc f) ∧ Blk wr (w.heap.size + 1) 31 (mc g) ∧ Below w.heap.size w wr) (fun i _ => 5 - (intOf i).toNat)
    case atStart => exact ⟨0, by omega, rfl, fun j hj => absurd hj (by omega), (Blk.new _ _ _).alloc _, Blk.new' _ _ _ (by simp), by (repeat (first | with_reducible assumption | with_reducible exact Below.refl _ _ | with_reducible refine Below.setCell ?_ (by first | omega | (simp <;> omega)) _ | with_reducible refine Below.alloc ?_ (by first | omega | (simp <;> omega)) _ | with_reducible refine Below.drew ?_ | with_reducible refine Below.drewN ?_ _))⟩
    case round =>
      obtain ⟨k, hk, rfl, hs, hB1, hB2, hbel⟩ := hrel
      have c0 : wr.cell? ⟨w.heap.size, 0, none⟩ = some (I f.p) := hB1.cell 0
      by_cases hlt : (k : Int) < f.p
      · have hk5 : k < 5 := by omega
        have c1 := hB1.at_ hk5
        have c2 := hB2.at_ hk5
        have h0 : (0 : Int) ≤ (k : Int) := by omega
        have h1 : (k : Int) < 5 := by omega
        by_cases he : f.at k = g.at k
        · have heb : (f.at k != g.at k) = false := by simp [he]
          have Hs : Hid (∀ j, j < k + 1 → f.at j = g.at j) := by
            intro j hj; by_cases e : j = k
            · subst e; exact he
            · exact hs.out j (by omega)
          clear he
          go_wp2_with fail
          go_quiet (fail)
          go_wp2
          go_roundw
          case rel => exact ⟨k + 1, by omega, by go_num, Hs.out, hB1.drewN _, hB2.drewN _, hbel.drewN _⟩
          case measure => simp [intOf]; omega
        · have heb : (f.at k != g.at k) = true := by simp [he]
          have Hs : Hid (lessM f g = decide (f.at k < g.at k)) := lessM_at Hp.out hk5 hs.out he
          clear he
          cases hd : decide (f.at k < g.at k)
          all_goals
            go_wp2_with fail
            go_quiet (fail)
            go_wp2_with fail
            replace hB1 := hB1.drewN nq
            replace hB2 := hB2.drewN nq
            replace hbel := hbel.drewN nq
            clear c0 c1 c2
            generalize wr.drewN nq = w9 at hB1 hB2 hbel ⊢
            have c1 := hB1.at_ hk5
            have c2 := hB2.at_ hk5
            go_quiet (fail)
            go_wp2
            go_ret
            exact ⟨ret_bool (Hs.out.trans hd).symm, hbel.drewN _⟩
      · have Hs : Hid (lessM f g = false) := lessM_same hf hg Hp.out hlt hs.out
        go_wp2
        go_ret
        exact ⟨ret_bool Hs.out.symm, hbel⟩
  · have hpb : (f.p != g.p) = true := by simp [hp]
    have Hs := Lib.hid (lessM_ne hp)
    clear hp
    cases hd : decide (f.p < g.p)
    all_goals
      go_enter Tryz.func98, Tryz.ntmps98
      go_wp2
      go_ret
      exact ⟨ret_bool (Hs.out.trans hd).symm, by (repeat (first | with_reducible assumption | with_reducible exact Below.refl _ _ | with_reducible refine Below.setCell ?_ (by first | omega | (simp <;> omega)) _ | with_reducible refine Below.alloc ?_ (by first | omega | (simp <;> omega)) _ | with_reducible refine Below.drew ?_ | with_reducible refine Below.drewN ?_ _))⟩
end Go.Proofs.YtchjegojcpbfpaaGreat

namespace Go.Proofs.YtchjegojcpbfpaaGreat
open Go.RowKit
set_option maxRecDepth 100000
/-! ### the order -/
theorem lessM_iff {f g : M} : lessM f g = true ↔ f.p < g.p ∨ (f.p = g.p ∧ ∃ k, k < 5 ∧ (∀ j, j < k → f.at j = g.at j) ∧ f.at k < g.at k) := by
  rw [lessM, decide_eq_true_eq]
  constructor
  · intro h
    rcases cmpM_cases f g with ⟨_, e⟩ | ⟨hp, e⟩ | ⟨k, hk, hp, hj, hn, e⟩
    · omega
    · rw [e] at h; exact .inl (cmpI_neg.1 h)
    · rw [e] at h; exact .inr ⟨hp, k, hk, hj, cmpI_neg.1 h⟩
  · rintro (h | ⟨hp, k, hk, hj, h⟩)
    · rw [cmpM_p (by omega)]; exact cmpI_neg.2 h
    · rw [cmpM_at hp hk hj (by omega)]; exact cmpI_neg.2 h
theorem lessM_trans {f g h : M} (h1 : lessM f g = true) (h2 : lessM g h = true) : lessM f h = true := by
  rw [lessM_iff] at h1 h2 ⊢
  rcases h1 with h1 | ⟨p1, k, hk, e1, l1⟩
  · rcases h2 with h2 | ⟨p2, _⟩
    · left; omega
    · left; omega
  · rcases h2 with h2 | ⟨p2, m, hm, e2, l2⟩
    · left; omega
    · right
      refine ⟨by omega, ?_⟩
      by_cases hkm : k < m
      · exact ⟨k, hk, fun j hj => by rw [e1 j hj, e2 j (by omega)], by rw [← e2 k hkm]; exact l1⟩
      · by_cases hmk : m < k
        · exact ⟨m, hm, fun j hj => by rw [e1 j (by omega), e2 j hj], by rw [e1 m hmk]; exact l2⟩
        · obtain rfl : k = m := by omega
          exact ⟨k, hk, fun j hj => by rw [e1 j hj, e2 j hj], by omega⟩
theorem lessM_irr (f : M) : lessM f f = false := by
  rw [lessM, cmpM_zero.2 rfl]; rfl
theorem lessM_tot {f g : M} (h : f ≠ g) : lessM f g = true ∨ lessM g f = true := by
  have h1 := cmpM_bd f g
  have h2 := cmpM_swap f g
  have h3 : cmpM f g ≠ 0 := fun e => h (cmpM_zero.1 e)
  simp only [lessM, decide_eq_true_eq]
  omega
theorem lessM_asym {f g : M} (h : lessM f g = true) : lessM g f = false := by
  have h2 := cmpM_swap f g
  rw [lessM, decide_eq_true_eq] at h
  rw [lessM, decide_eq_false_iff_not]
  omega
theorem lessM_ne' {f g : M} (h : lessM f g = true) : f ≠ g := by
  rintro rfl; rw [lessM_irr] at h; cases h
abbrev Asc (l : List M) : Prop := l.Pairwise fun f g => lessM f g = true
theorem Asc.nodup {l : List M} (h : Asc l) : l.Nodup := h.imp fun h => lessM_ne' h
theorem asc_ext : ∀ {a b : List M}, Asc a → Asc b → (∀ z, z ∈ a ↔ z ∈ b) → a = b
  | [], [], _, _, _ => rfl
  | [], y :: _, _, _, h => absurd ((h y).2 (by simp)) (by simp)
  | x :: _, [], _, _, h => absurd ((h x).1 (by simp)) (by simp)
  | x :: xs, y :: ys, ha, hb, h => by
    obtain ⟨ha1, ha2⟩ := List.pairwise_cons.1 ha
    obtain ⟨hb1, hb2⟩ := List.pairwise_cons.1 hb
    have hxy : x = y := by
      refine Classical.byContradiction fun hne => ?_
      have h1 : x ∈ ys := ((List.mem_cons.1 ((h x).1 (by simp))).resolve_left hne)
      have h2 : y ∈ xs := ((List.mem_cons.1 ((h y).2 (by simp))).resolve_left (Ne.symm hne))
      have := lessM_asym (ha1 y h2)
      rw [hb1 x h1] at this; cases this
    subst hxy
    congr 1
    refine asc_ext ha2 hb2 fun z => ⟨fun hz => ?_, fun hz => ?_⟩
    · exact ((List.mem_cons.1 ((h z).1 (by simp [hz])))).resolve_left (lessM_ne' (ha1 z hz)).symm
    · exact ((List.mem_cons.1 ((h z).2 (by simp [hz])))).resolve_left (lessM_ne' (hb1 z hz)).symm
def insM (f : M) : List M → List M
  | [] => [f]
  | g :: gs => if lessM f g then f :: g :: gs else if f = g then g :: gs else g :: insM f gs
theorem insM_mem {f z : M} : ∀ {l : List M}, z ∈ insM f l ↔ z = f ∨ z ∈ l
  | [] => by simp [insM]
  | g :: gs => by
    rw [insM]
    split
    · simp
    · split
      · rename_i h; subst h; simp
      · rw [List.mem_cons, insM_mem, List.mem_cons]
        constructor
        · rintro (h | h | h)
          · exact .inr (.inl h)
          · exact .inl h
          · exact .inr (.inr h)
        · rintro (h | h | h)
          · exact .inr (.inl h)
          · exact .inl h
          · exact .inr (.inr h)
theorem insM_asc {f : M} : ∀ {l : List M}, Asc l → Asc (insM f l)
  | [], _ => by simp [insM]
  | g :: gs, h => by
    obtain ⟨h1, h2⟩ := List.pairwise_cons.1 h
    rw [insM]
    split
    · rename_i hl
      refine List.pairwise_cons.2 ⟨fun z hz => ?_, h⟩
      rcases List.mem_cons.1 hz with rfl | hz
      · exact hl
      · exact lessM_trans hl (h1 z hz)
    · split
      · exact h
      · rename_i hl hne
        refine List.pairwise_cons.2 ⟨fun z hz => ?_, insM_asc h2⟩
        rcases insM_mem.1 hz with rfl | hz
        · exact (lessM_tot hne).resolve_left hl
        · exact h1 z hz
theorem insM_length {f : M} : ∀ {l : List M}, f ∉ l → (insM f l).length = l.length + 1
  | [], _ => rfl
  | g :: gs, h => by
    rw [List.mem_cons, not_or] at h
    rw [insM]
    split
    · rfl
    · rw [if_neg h.1, List.length_cons, insM_length h.2, List.length_cons]
def sortM : List M → List M
  | [] => []
  | f :: l => insM f (sortM l)
theorem sortM_mem {z : M} : ∀ {l : List M}, z ∈ sortM l ↔ z ∈ l
  | [] => by simp [sortM]
  | f :: l => by rw [sortM, insM_mem, sortM_mem, List.mem_cons]
theorem sortM_asc : ∀ l : List M, Asc (sortM l)
  | [] => List.Pairwise.nil
  | _ :: l => insM_asc (sortM_asc l)
theorem sortM_length : ∀ {l : List M}, l.Nodup → (sortM l).length = l.length
  | [], _ => rfl
  | f :: l, h => by
    obtain ⟨h1, h2⟩ := List.nodup_cons.1 h
    rw [sortM, insM_length (fun hf => h1 (sortM_mem.1 hf)), sortM_length h2]; rfl
theorem sortM_eq {l a : List M} (ha : Asc a) (h : ∀ z, z ∈ a ↔ z ∈ l) : sortM l = a :=
  asc_ext (sortM_asc l) ha fun z => by rw [sortM_mem, h]
theorem sortM_snoc {l : List M} {f : M} : sortM (l ++ [f]) = insM f (sortM l) :=
  sortM_eq (insM_asc (sortM_asc l)) fun z => by rw [insM_mem, sortM_mem]; simp [or_comm]
/-! ### the search -/
abbrev Met := List (M × List Int)
def rowC (f : M) (u : List Int) : List M → Nat → Met → Option Met
  | [], _, ps => some ps
  | g :: gs, k, ps =>
    if mul f g ∈ ps.map (·.1) then rowC f u gs (k + 1) ps
    else if ps.length = 300 then none
    else rowC f u gs (k + 1) (ps ++ [(mul f g, u ++ [(k : Int)])])
def pm (ps : Met) (i : Nat) : M × List Int := ps.getD i (M0, [])
theorem pm_eq {ps : Met} {i : Nat} (h : i < ps.length) : pm ps i = ps[i] := by simp [pm, List.getD, h]
theorem pm_mem {ps : Met} {i : Nat} (h : i < ps.length) : pm ps i ∈ ps := by rw [pm_eq h]; exact List.getElem_mem h
theorem pm_app {ps qs : Met} {i : Nat} (h : i < ps.length) : pm (ps ++ qs) i = pm ps i := by
  rw [pm_eq h, pm_eq (by simp; omega), List.getElem_append_left h]
def allC (gens : List M) : Nat → Nat → Met → Option Met
  | 0, _, ps => some ps
  | fuel + 1, i, ps => if i < ps.length then (rowC (pm ps i).1 (pm ps i).2 gens 0 ps).bind (allC gens fuel (i + 1)) else some ps
def clo (gens : List M) (n : Int) : Option Met := allC gens 300 0 [(one n, [])]
theorem rowC_nil (f : M) (u : List Int) (k : Nat) (ps : Met) : rowC f u [] k ps = some ps := rfl
theorem rowC_in {f g : M} {u : List Int} {gs : List M} {k : Nat} {ps : Met} (h : mul f g ∈ ps.map (·.1)) : rowC f u (g :: gs) k ps = rowC f u gs (k + 1) ps := by rw [rowC, if_pos h]
theorem rowC_full {f g : M} {u : List Int} {gs : List M} {k : Nat} {ps : Met} (h : mul f g ∉ ps.map (·.1)) (hl : ps.length = 300) : rowC f u (g :: gs) k ps = none := by rw [rowC, if_neg h, if_pos hl]
theorem rowC_new {f g : M} {u : List Int} {gs : List M} {k : Nat} {ps : Met} (h : mul f g ∉ ps.map (·.1)) (hl : ps.length ≠ 300) : rowC f u (g :: gs) k ps = rowC f u gs (k + 1) (ps ++ [(mul f g, u ++ [(k : Int)])]) := by rw [rowC, if_neg h, if_neg hl]
inductive Mon (gens : List M) (n : Int) : M → Prop
  | one : Mon gens n (one n)
  | snoc {f g : M} : Mon gens n f → g ∈ gens → Mon gens n (mul f g)
def Pts (n : Int) (gens : List M) : Prop := ∀ g ∈ gens, Valid g ∧ g.p = n
section
variable {gens : List M} {n : Int}
theorem Mon.ok (h1 : 1 ≤ n) (h5 : n ≤ 5) (hG : Pts n gens) {f : M} (h : Mon gens n f) : Valid f ∧ f.p = n := by
  induction h with
  | one => exact ⟨Valid.one h1 h5, rfl⟩
  | snoc _ hg ih => exact ⟨Valid.mul ih.1 (hG _ hg).1 (by rw [ih.2, (hG _ hg).2]), ih.2⟩
theorem Mon.gen (hG : Pts n gens) {g : M} (hg : g ∈ gens) : Mon gens n g := by
  have := Mon.snoc (n := n) (Mon.one) hg
  have e := one_mul' (hG g hg).1
  rw [(hG g hg).2] at e
  rwa [e] at this
theorem Mon.mul (h1 : 1 ≤ n) (h5 : n ≤ 5) (hG : Pts n gens) {f g : M} (hf : Mon gens n f) (hg : Mon gens n g) : Mon gens n (mul f g) := by
  induction hg with
  | one =>
    have := mul_one' (hf.ok h1 h5 hG).1
    rw [(hf.ok h1 h5 hG).2] at this
    rwa [this]
  | snoc h hg ih =>
    rw [← mul_assoc (hf.ok h1 h5 hG).1 (h.ok h1 h5 hG).1 (by rw [(hf.ok h1 h5 hG).2, (h.ok h1 h5 hG).2])]
    exact .snoc ih hg
theorem Mon.sub {gens' : List M} (hs : ∀ g ∈ gens, g ∈ gens') {f : M} (h : Mon gens n f) : Mon gens' n f := by
  induction h with
  | one => exact .one
  | snoc _ hg ih => exact .snoc ih (hs _ hg)
def prd (gens : List M) (n : Int) (u : List Int) : M := u.foldl (fun f z => Go.Proofs.YtchjegojcpbfpaaGreat.mul f (gm gens z.toNat)) (Go.Proofs.YtchjegojcpbfpaaGreat.one n)
theorem prd_nil : prd gens n [] = Go.Proofs.YtchjegojcpbfpaaGreat.one n := rfl
theorem prd_snoc (u : List Int) (z : Int) : prd gens n (u ++ [z]) = Go.Proofs.YtchjegojcpbfpaaGreat.mul (prd gens n u) (gm gens z.toNat) := by simp [prd]
structure Good (gens : List M) (n : Int) (ps : Met) : Prop where
  nd : (ps.map (·.1)).Nodup
  len : ps.length ≤ 300
  mon : ∀ q ∈ ps, Mon gens n q.1
  wd : ∀ q ∈ ps, q.1 = prd gens n q.2 ∧ ∀ z ∈ q.2, 0 ≤ z ∧ z < gens.length
  fst : ∃ qs, ps = (Go.Proofs.YtchjegojcpbfpaaGreat.one n, []) :: qs ∧ ∀ q ∈ qs, q.2 ≠ []
  wl : ∀ i, i < ps.length → (pm ps i).2.length ≤ i
theorem Good.start (gens : List M) (n : Int) : Good gens n [(Go.Proofs.YtchjegojcpbfpaaGreat.one n, [])] :=
  ⟨by simp, by simp, by simp; exact .one, by simp [prd_nil], ⟨[], rfl, by simp⟩, fun i hi => by
    have e : i = 0 := by simp at hi; omega
    rw [e]
    simp [pm]⟩
theorem Good.add {ps : Met} (h : Good gens n ps) {f : M} {u : List Int} {k : Nat} (hf : (f, u) ∈ ps) (hk : k < gens.length) (hn : Go.Proofs.YtchjegojcpbfpaaGreat.mul f (gm gens k) ∉ ps.map (·.1)) (hl : ps.length ≠ 300) :
    Good gens n (ps ++ [(Go.Proofs.YtchjegojcpbfpaaGreat.mul f (gm gens k), u ++ [(k : Int)])]) := by
  have hg : gm gens k ∈ gens := by rw [gm_eq hk]; exact List.getElem_mem hk
  refine ⟨?_, by have := h.len; simp; omega, ?_, ?_, ?_, ?_⟩
  · rw [List.map_append, List.nodup_append]
    refine ⟨h.nd, by simp, fun a ha b hb => ?_⟩
    simp at hb
    subst hb
    rintro rfl
    exact hn ha
  · intro q hq
    rcases List.mem_append.1 hq with hq | hq
    · exact h.mon q hq
    · simp at hq; subst hq; exact .snoc (h.mon _ hf) hg
  · intro q hq
    rcases List.mem_append.1 hq with hq | hq
    · exact h.wd q hq
    · simp at hq; subst hq
      obtain ⟨e, hz⟩ := h.wd _ hf
      refine ⟨by rw [prd_snoc, ← e]; simp, fun z hz' => ?_⟩
      rcases List.mem_append.1 hz' with hz' | hz'
      · exact hz z hz'
      · simp at hz'; subst hz'; omega
  · obtain ⟨qs, e, hq⟩ := h.fst
    refine ⟨qs ++ [_], by rw [e]; rfl, fun q hq' => ?_⟩
    rcases List.mem_append.1 hq' with hq' | hq'
    · exact hq q hq'
    · simp at hq'; subst hq'; simp
  · intro i hi
    by_cases e : i = ps.length
    · subst e
      obtain ⟨a, ha, e2⟩ := List.getElem_of_mem hf
      have := h.wl a ha
      rw [pm_eq ha, e2] at this
      rw [pm_eq (by simp), List.getElem_append_right (by simp)]
      simp
      simp at this
      omega
    · have hi' : i < ps.length := by simp at hi; omega
      rw [pm_app hi']
      exact h.wl i hi'
theorem drop_gm {l : List M} {k : Nat} {g : M} {gs : List M} (h : l.drop k = g :: gs) : k < l.length ∧ g = gm l k ∧ l.drop (k + 1) = gs := by
  have hk : k < l.length := by
    rcases Nat.lt_or_ge k l.length with h' | h'
    · exact h'
    · rw [List.drop_eq_nil_of_le h'] at h; cases h
  rw [List.drop_eq_getElem_cons hk] at h
  injection h with h1 h2
  exact ⟨hk, by rw [gm_eq hk, h1], h2⟩
theorem drop_cons {l : List M} {k : Nat} (hk : k < l.length) : l.drop k = gm l k :: l.drop (k + 1) := by
  rw [List.drop_eq_getElem_cons hk, gm_eq hk]
theorem rowC_good {f : M} {u : List Int} : ∀ (gs : List M) (k : Nat) (ps : Met), gens.drop k = gs → Good gens n ps → (f, u) ∈ ps →
    (∀ ps', rowC f u gs k ps = some ps' → Good gens n ps' ∧ (∃ qs, ps' = ps ++ qs) ∧ ∀ g ∈ gs, Go.Proofs.YtchjegojcpbfpaaGreat.mul f g ∈ ps'.map (·.1)) ∧
    (rowC f u gs k ps = none → ∃ L : List M, L.Nodup ∧ L.length = 301 ∧ ∀ x ∈ L, Mon gens n x)
  | [], k, ps, _, h, _ => by
    refine ⟨fun ps' e => ?_, fun e => by cases e⟩
    injection e with e; subst e
    exact ⟨h, ⟨[], by simp⟩, by simp⟩
  | g :: gs, k, ps, hd, h, hf => by
    obtain ⟨hk, hg, hd'⟩ := drop_gm hd
    by_cases hin : Go.Proofs.YtchjegojcpbfpaaGreat.mul f g ∈ ps.map (·.1)
    · rw [rowC_in hin]
      obtain ⟨h1, h2⟩ := rowC_good gs (k + 1) ps hd' h hf
      refine ⟨fun ps' e => ?_, h2⟩
      obtain ⟨a, ⟨qs, rfl⟩, c⟩ := h1 ps' e
      refine ⟨a, ⟨qs, rfl⟩, fun x hx => ?_⟩
      rcases List.mem_cons.1 hx with rfl | hx
      · rw [List.map_append]; exact List.mem_append_left _ hin
      · exact c x hx
    · by_cases hl : ps.length = 300
      · rw [rowC_full hin hl]
        refine ⟨fun ps' e => (by cases e), fun _ => ⟨Go.Proofs.YtchjegojcpbfpaaGreat.mul f g :: ps.map (·.1), List.nodup_cons.2 ⟨hin, h.nd⟩, by simp [hl], fun x hx => ?_⟩⟩
        rcases List.mem_cons.1 hx with rfl | hx
        · refine .snoc (h.mon _ hf) ?_
          rw [hg, gm_eq hk]; exact List.getElem_mem hk
        · obtain ⟨q, hq, rfl⟩ := List.mem_map.1 hx
          exact h.mon q hq
      · rw [rowC_new hin hl]
        have h' := h.add hf hk (by rw [← hg]; exact hin) hl
        rw [← hg] at h'
        obtain ⟨h1, h2⟩ := rowC_good gs (k + 1) _ hd' h' (List.mem_append_left _ hf)
        refine ⟨fun ps' e => ?_, h2⟩
        obtain ⟨a, ⟨qs, rfl⟩, c⟩ := h1 ps' e
        refine ⟨a, ⟨_, List.append_assoc _ _ _⟩, fun x hx => ?_⟩
        rcases List.mem_cons.1 hx with rfl | hx
        · simp
        · exact c x hx
theorem allC_good : ∀ (fuel i : Nat) (ps : Met), i + fuel = 300 → Good gens n ps → i ≤ ps.length → (∀ j, j < i → ∀ g ∈ gens, Go.Proofs.YtchjegojcpbfpaaGreat.mul (pm ps j).1 g ∈ ps.map (·.1)) →
    (∀ ps', allC gens fuel i ps = some ps' → Good gens n ps' ∧ ∀ j, j < ps'.length → ∀ g ∈ gens, Go.Proofs.YtchjegojcpbfpaaGreat.mul (pm ps' j).1 g ∈ ps'.map (·.1)) ∧
    (allC gens fuel i ps = none → ∃ L : List M, L.Nodup ∧ L.length = 301 ∧ ∀ x ∈ L, Mon gens n x)
  | 0, i, ps, hi, h, hle, hc => by
    refine ⟨fun ps' e => ?_, fun e => by cases e⟩
    injection e with e; subst e
    have := h.len
    exact ⟨h, fun j hj => hc j (by omega)⟩
  | fuel + 1, i, ps, hi, h, hle, hc => by
    rw [allC]
    by_cases hlt : i < ps.length
    · rw [if_pos hlt]
      have hm : ((pm ps i).1, (pm ps i).2) ∈ ps := pm_mem hlt
      obtain ⟨h1, h2⟩ := rowC_good (f := (pm ps i).1) (u := (pm ps i).2) gens 0 ps rfl h hm
      cases hr : rowC (pm ps i).1 (pm ps i).2 gens 0 ps with
      | none => exact ⟨fun _ e => (by cases e), fun _ => h2 hr⟩
      | some ps1 =>
        obtain ⟨a, ⟨qs, rfl⟩, c⟩ := h1 ps1 hr
        refine allC_good fuel (i + 1) _ (by omega) a (by simp; omega) fun j hj g hg => ?_
        by_cases e : j = i
        · subst e; rw [pm_app hlt]; exact c g hg
        · rw [pm_app (by omega), List.map_append]; exact List.mem_append_left _ (hc j (by omega) g hg)
    · rw [if_neg hlt]
      refine ⟨fun ps' e => ?_, fun e => by cases e⟩
      injection e with e; subst e
      exact ⟨h, fun j hj => hc j (by omega)⟩
theorem clo_good {ps : Met} (h : clo gens n = some ps) : Good gens n ps ∧ ∀ j, j < ps.length → ∀ g ∈ gens, Go.Proofs.YtchjegojcpbfpaaGreat.mul (pm ps j).1 g ∈ ps.map (·.1) :=
  (allC_good 300 0 _ rfl (Good.start gens n) (by simp) fun j hj => absurd hj (by omega)).1 ps h
theorem clo_mem {ps : Met} (h : clo gens n = some ps) {x : M} : x ∈ ps.map (·.1) ↔ Mon gens n x := by
  obtain ⟨hg, hc⟩ := clo_good h
  constructor
  · intro hx
    obtain ⟨q, hq, rfl⟩ := List.mem_map.1 hx
    exact hg.mon q hq
  · intro hx
    induction hx with
    | one => obtain ⟨qs, e, _⟩ := hg.fst; rw [e]; simp
    | snoc _ hg' ih =>
      obtain ⟨q, hq, e⟩ := List.mem_map.1 ih
      obtain ⟨j, hj, e'⟩ := List.getElem_of_mem hq
      have := hc j hj _ hg'
      rwa [pm_eq hj, e', e] at this
theorem nodup_sub_len {α : Type} [DecidableEq α] : ∀ {a b : List α}, a.Nodup → (∀ x ∈ a, x ∈ b) → a.length ≤ b.length
  | [], _, _, _ => by simp
  | x :: xs, b, h, hs => by
    obtain ⟨h1, h2⟩ := List.nodup_cons.1 h
    have hx : x ∈ b := hs x (by simp)
    have := nodup_sub_len (b := b.erase x) h2 fun y hy => (List.mem_erase_of_ne (fun e => h1 (by rw [← e]; exact hy))).2 (hs y (by simp [hy]))
    rw [List.length_erase_of_mem hx] at this
    have h0 : 0 < b.length := List.length_pos_of_mem hx
    simp; omega
end
set_option maxRecDepth 100000
theorem gi_app {xs ys : List Int} {j : Nat} (h : j < xs.length) : gi (xs ++ ys) j = gi xs j := by
  rw [gi_eq h, gi_eq (by simp; omega), List.getElem_append_left h]
def dst : List Int → List Int → List Int
  | acc, [] => acc
  | acc, z :: zs => if z ∈ acc then dst acc zs else dst (acc ++ [z]) zs
set_option maxRecDepth 100000
structure Mnd (n : Int) (E : List M) : Prop where
  asc : Asc E
  ok : ∀ f ∈ E, Valid f ∧ f.p = n
  oneE : Go.Proofs.YtchjegojcpbfpaaGreat.one n ∈ E
  mulE : ∀ f ∈ E, ∀ g ∈ E, Go.Proofs.YtchjegojcpbfpaaGreat.mul f g ∈ E
section
variable {n : Int} {E : List M}
theorem Mnd.assoc (h : Mnd n E) {f g x : M} (hf : f ∈ E) (hg : g ∈ E) : mul (mul f g) x = mul f (mul g x) :=
  mul_assoc (h.ok f hf).1 (h.ok g hg).1 (by rw [(h.ok f hf).2, (h.ok g hg).2])
theorem Mnd.mul1 (h : Mnd n E) {f : M} (hf : f ∈ E) : mul f (Go.Proofs.YtchjegojcpbfpaaGreat.one n) = f := by
  have := mul_one' (h.ok f hf).1
  rwa [(h.ok f hf).2] at this
theorem Mnd.one1 (h : Mnd n E) {f : M} (hf : f ∈ E) : mul (Go.Proofs.YtchjegojcpbfpaaGreat.one n) f = f := by
  have := one_mul' (h.ok f hf).1
  rwa [(h.ok f hf).2] at this
def RR (E : List M) (f g : M) : Prop := ∃ x ∈ E, mul f x = g
def LL (E : List M) (f g : M) : Prop := ∃ x ∈ E, mul x f = g
def JJ (E : List M) (f g : M) : Prop := ∃ x ∈ E, ∃ y ∈ E, mul x (mul f y) = g
instance (f g : M) : Decidable (RR E f g) := by unfold RR; infer_instance
instance (f g : M) : Decidable (LL E f g) := by unfold LL; infer_instance
instance (f g : M) : Decidable (JJ E f g) := by unfold JJ; infer_instance
theorem RR.mem (h : Mnd n E) {f g : M} (hf : f ∈ E) (hr : RR E f g) : g ∈ E := by
  obtain ⟨x, hx, rfl⟩ := hr; exact h.mulE _ hf _ hx
theorem LL.mem (h : Mnd n E) {f g : M} (hf : f ∈ E) (hr : LL E f g) : g ∈ E := by
  obtain ⟨x, hx, rfl⟩ := hr; exact h.mulE _ hx _ hf
theorem JJ.mem (h : Mnd n E) {f g : M} (hf : f ∈ E) (hr : JJ E f g) : g ∈ E := by
  obtain ⟨x, hx, y, hy, rfl⟩ := hr; exact h.mulE _ hx _ (h.mulE _ hf _ hy)
theorem RR.refl (h : Mnd n E) {f : M} (hf : f ∈ E) : RR E f f := ⟨_, h.oneE, h.mul1 hf⟩
theorem LL.refl (h : Mnd n E) {f : M} (hf : f ∈ E) : LL E f f := ⟨_, h.oneE, h.one1 hf⟩
theorem JJ.refl (h : Mnd n E) {f : M} (hf : f ∈ E) : JJ E f f := ⟨_, h.oneE, _, h.oneE, by rw [h.mul1 hf, h.one1 hf]⟩
theorem RR.trans (h : Mnd n E) {f g k : M} (hf : f ∈ E) (h1 : RR E f g) (h2 : RR E g k) : RR E f k := by
  obtain ⟨x, hx, rfl⟩ := h1; obtain ⟨y, hy, rfl⟩ := h2
  exact ⟨_, h.mulE _ hx _ hy, (h.assoc hf hx).symm⟩
theorem LL.trans (h : Mnd n E) {f g k : M} (h1 : LL E f g) (h2 : LL E g k) : LL E f k := by
  obtain ⟨x, hx, rfl⟩ := h1; obtain ⟨y, hy, rfl⟩ := h2
  exact ⟨_, h.mulE _ hy _ hx, h.assoc hy hx⟩
theorem JJ.trans (h : Mnd n E) {f g k : M} (hf : f ∈ E) (h1 : JJ E f g) (h2 : JJ E g k) : JJ E f k := by
  obtain ⟨x, hx, y, hy, rfl⟩ := h1; obtain ⟨u, hu, v, hv, rfl⟩ := h2
  refine ⟨_, h.mulE _ hu _ hx, _, h.mulE _ hy _ hv, ?_⟩
  rw [h.assoc hu hx, h.assoc hx (h.mulE _ hf _ hy), h.assoc hf hy]
def eqR (E : List M) (f g : M) : Prop := RR E f g ∧ RR E g f
def eqL (E : List M) (f g : M) : Prop := LL E f g ∧ LL E g f
def eqJ (E : List M) (f g : M) : Prop := JJ E f g ∧ JJ E g f
def eqH (E : List M) (f g : M) : Prop := eqL E f g ∧ eqR E f g
instance (f g : M) : Decidable (eqR E f g) := by unfold eqR; infer_instance
instance (f g : M) : Decidable (eqL E f g) := by unfold eqL; infer_instance
instance (f g : M) : Decidable (eqJ E f g) := by unfold eqJ; infer_instance
instance (f g : M) : Decidable (eqH E f g) := by unfold eqH; infer_instance
theorem eqR.symm {f g : M} (h : eqR E f g) : eqR E g f := ⟨h.2, h.1⟩
theorem eqL.symm {f g : M} (h : eqL E f g) : eqL E g f := ⟨h.2, h.1⟩
theorem eqJ.symm {f g : M} (h : eqJ E f g) : eqJ E g f := ⟨h.2, h.1⟩
theorem eqH.symm {f g : M} (h : eqH E f g) : eqH E g f := ⟨h.1.symm, h.2.symm⟩
theorem eqR.trans (h : Mnd n E) {f g k : M} (hf : f ∈ E) (h1 : eqR E f g) (h2 : eqR E g k) : eqR E f k :=
  ⟨h1.1.trans h hf h2.1, h2.2.trans h (h2.1.mem h (h1.1.mem h hf)) h1.2⟩
theorem eqL.trans (h : Mnd n E) {f g k : M} (h1 : eqL E f g) (h2 : eqL E g k) : eqL E f k := ⟨h1.1.trans h h2.1, h2.2.trans h h1.2⟩
theorem eqJ.trans (h : Mnd n E) {f g k : M} (hf : f ∈ E) (h1 : eqJ E f g) (h2 : eqJ E g k) : eqJ E f k :=
  ⟨h1.1.trans h hf h2.1, h2.2.trans h (h2.1.mem h (h1.1.mem h hf)) h1.2⟩
theorem eqH.trans (h : Mnd n E) {f g k : M} (hf : f ∈ E) (h1 : eqH E f g) (h2 : eqH E g k) : eqH E f k := ⟨h1.1.trans h h2.1, h1.2.trans h hf h2.2⟩
theorem eqR.refl (h : Mnd n E) {f : M} (hf : f ∈ E) : eqR E f f := ⟨RR.refl h hf, RR.refl h hf⟩
theorem eqL.refl (h : Mnd n E) {f : M} (hf : f ∈ E) : eqL E f f := ⟨LL.refl h hf, LL.refl h hf⟩
theorem eqJ.refl (h : Mnd n E) {f : M} (hf : f ∈ E) : eqJ E f f := ⟨JJ.refl h hf, JJ.refl h hf⟩
theorem eqH.refl (h : Mnd n E) {f : M} (hf : f ∈ E) : eqH E f f := ⟨eqL.refl h hf, eqR.refl h hf⟩
end
set_option maxRecDepth 100000
/-! ### the number of a map -/
def num (f : M) : Int := (((f.t0 * 5 + f.t1) * 5 + f.t2) * 5 + f.t3) * 5 + f.t4
theorem num_bd {f : M} (hf : Valid f) : 0 ≤ num f ∧ num f < 3125 := by
  have h0 := hf.nn (k := 0) (by omega); have h1 := hf.nn (k := 1) (by omega); have h2 := hf.nn (k := 2) (by omega); have h3 := hf.nn (k := 3) (by omega); have h4 := hf.nn (k := 4) (by omega)
  simp only [M.at] at h0 h1 h2 h3 h4
  unfold num
  omega
theorem digit {x y a b : Int} (ha : 0 ≤ a ∧ a < 5) (hb : 0 ≤ b ∧ b < 5) (h : x * 5 + a = y * 5 + b) : x = y ∧ a = b := by omega
theorem num_inj {f g : M} (hf : Valid f) (hg : Valid g) (hp : f.p = g.p) (h : num f = num g) : f = g := by
  have a0 := hf.nn (k := 0) (by omega); have a1 := hf.nn (k := 1) (by omega); have a2 := hf.nn (k := 2) (by omega); have a3 := hf.nn (k := 3) (by omega); have a4 := hf.nn (k := 4) (by omega)
  have b0 := hg.nn (k := 0) (by omega); have b1 := hg.nn (k := 1) (by omega); have b2 := hg.nn (k := 2) (by omega); have b3 := hg.nn (k := 3) (by omega); have b4 := hg.nn (k := 4) (by omega)
  simp only [M.at] at a0 a1 a2 a3 a4 b0 b1 b2 b3 b4
  unfold num at h
  obtain ⟨h, e4⟩ := digit a4 b4 h
  obtain ⟨h, e3⟩ := digit a3 b3 h
  obtain ⟨h, e2⟩ := digit a2 b2 h
  obtain ⟨e0, e1⟩ := digit a1 b1 h
  obtain ⟨p, x0, x1, x2, x3, x4⟩ := f
  obtain ⟨q, y0, y1, y2, y3, y4⟩ := g
  simp only at hp e0 e1 e2 e3 e4
  subst hp e0 e1 e2 e3 e4
  rfl
/-! ### places -/
def ix (E : List M) (f : M) : Nat := E.idxOf f
theorem ix_lt {E : List M} {f : M} (h : f ∈ E) : ix E f < E.length := List.idxOf_lt_length_of_mem h
theorem gm_ix {E : List M} {f : M} (h : f ∈ E) : gm E (ix E f) = f := by
  rw [gm_eq (ix_lt h)]
  exact List.getElem_idxOf (ix_lt h)
theorem gm_mem {E : List M} {i : Nat} (h : i < E.length) : gm E i ∈ E := by rw [gm_eq h]; exact List.getElem_mem h
theorem gm_inj {E : List M} (hn : E.Nodup) {i k : Nat} (hi : i < E.length) (hk : k < E.length) (h : gm E i = gm E k) : i = k := by
  rw [gm_eq hi, gm_eq hk] at h
  exact (List.getElem_inj hn).1 h
theorem ix_gm {E : List M} (hn : E.Nodup) {i : Nat} (hi : i < E.length) : ix E (gm E i) = i := gm_inj hn (ix_lt (gm_mem hi)) hi (gm_ix (gm_mem hi))
theorem mem_gm {E : List M} {f : M} (h : f ∈ E) : ∃ i, i < E.length ∧ gm E i = f := ⟨_, ix_lt h, gm_ix h⟩
def plOf (E : List M) (f : M) : Int := if f ∈ E then (ix E f : Int) + 1 else 0
theorem plOf_nil (f : M) : plOf [] f = 0 := by simp [plOf]
theorem plOf_pos {E : List M} {f : M} : 0 < plOf E f ↔ f ∈ E := by
  unfold plOf
  split
  · rename_i h; simp [h]
  · rename_i h; simp [h]
theorem plOf_in {E : List M} {f : M} (h : f ∈ E) : plOf E f = (ix E f : Int) + 1 := if_pos h
theorem plOf_out {E : List M} {f : M} (h : f ∉ E) : plOf E f = 0 := if_neg h
theorem ix_app {E : List M} {f g : M} (h : f ∈ E) : ix (E ++ [g]) f = ix E f := by
  unfold ix; rw [List.idxOf_append]; simp [h]
theorem ix_last {E : List M} {g : M} (h : g ∉ E) : ix (E ++ [g]) g = E.length := by
  unfold ix; rw [List.idxOf_append]; simp [h]
theorem plOf_app {E : List M} {f g : M} (hg : g ∉ E) : plOf (E ++ [g]) f = if f = g then (E.length : Int) + 1 else plOf E f := by
  by_cases e : f = g
  · subst e; rw [if_pos rfl, plOf_in (by simp), ix_last hg]
  · rw [if_neg e]
    by_cases h : f ∈ E
    · rw [plOf_in (by simp [h]), plOf_in h, ix_app h]
    · rw [plOf_out (by simp [h, e]), plOf_out h]
def Plc (n : Int) (E : List M) (pl : Nat → Int) : Prop := ∀ f, Valid f → f.p = n → pl (num f).toNat = plOf E f
theorem Plc.step {n : Int} {E : List M} {pl : Nat → Int} (h : Plc n E pl) {g : M} (hv : Valid g) (hp : g.p = n) (hg : g ∉ E) : Plc n (E ++ [g]) fun j => if j = (num g).toNat then (E.length : Int) + 1 else pl j := by
  intro f hf hfp
  rw [plOf_app hg]
  by_cases e : f = g
  · subst e; simp
  · have hne : (num f).toNat ≠ (num g).toNat := by
      intro e'
      have h1 := num_bd hf; have h2 := num_bd hv
      exact e (num_inj hf hv (by rw [hfp, hp]) (by omega))
    simp only [if_neg hne, if_neg e]
    exact h f hf hfp
def PlcTo (n : Int) (E F : List M) (k : Nat) (pl : Nat → Int) : Prop := ∀ f, Valid f → f.p = n → pl (num f).toNat = if f ∈ E ∧ ix E f < k then (ix E f : Int) + 1 else plOf F f
theorem PlcTo.start {n : Int} {E F : List M} {pl : Nat → Int} (h : Plc n F pl) : PlcTo n E F 0 pl := by
  intro f hf hp
  rw [if_neg (by omega)]
  exact h f hf hp
theorem PlcTo.step {n : Int} {E F : List M} {k : Nat} {pl : Nat → Int} (h : PlcTo n E F k pl) (hn : E.Nodup) (hk : k < E.length) (hok : ∀ f ∈ E, Valid f ∧ f.p = n) : PlcTo n E F (k + 1) fun j => if j = (num (gm E k)).toNat then (k : Int) + 1 else pl j := by
  intro f hf hp
  have hm := gm_mem hk
  by_cases e : f = gm E k
  · subst e
    rw [if_pos ⟨hm, by rw [ix_gm hn hk]; omega⟩, ix_gm hn hk]
    simp
  · have hne : (num f).toNat ≠ (num (gm E k)).toNat := by
      intro e'
      have h1 := num_bd hf; have h2 := num_bd (hok _ hm).1
      exact e (num_inj hf (hok _ hm).1 (by rw [hp, (hok _ hm).2]) (by omega))
    simp only [if_neg hne]
    rw [h f hf hp]
    by_cases hE : f ∈ E
    · have : ix E f ≠ k := fun e' => e (by rw [← e']; exact (gm_ix hE).symm)
      by_cases hl : ix E f < k
      · rw [if_pos ⟨hE, hl⟩, if_pos ⟨hE, by omega⟩]
      · rw [if_neg (fun h => hl h.2), if_neg (fun h => by have := h.2; omega)]
    · rw [if_neg (fun h => hE h.1), if_neg (fun h => hE h.1)]
theorem PlcTo.fin {n : Int} {E F : List M} {k : Nat} {pl : Nat → Int} (h : PlcTo n E F k pl) (hk : E.length ≤ k) (hs : ∀ f, f ∈ E ↔ f ∈ F) : Plc n E pl := by
  intro f hf hp
  rw [h f hf hp]
  by_cases hE : f ∈ E
  · rw [if_pos ⟨hE, by have := ix_lt hE; omega⟩, plOf_in hE]
  · rw [if_neg (fun h => hE h.1), plOf_out hE, plOf_out fun h => hE ((hs f).2 h)]
/-! ### the elements -/
section
variable {gens : List M} {n : Int}
theorem clo_mnd {ps : Met} (h1 : 1 ≤ n) (h5 : n ≤ 5) (hG : Pts n gens) (h : clo gens n = some ps) : Mnd n (sortM (ps.map (·.1))) := by
  refine ⟨sortM_asc _, fun f hf => ?_, ?_, fun f hf g hg => ?_⟩
  · rw [sortM_mem, clo_mem h] at hf; exact hf.ok h1 h5 hG
  · rw [sortM_mem, clo_mem h]; exact .one
  · rw [sortM_mem, clo_mem h] at hf hg ⊢; exact hf.mul h1 h5 hG hg
theorem Mnd.pos {E : List M} (h : Mnd n E) : 0 < E.length := List.length_pos_of_mem h.oneE
def wordOf (ps : Met) (f : M) : List Int := (pm ps (ix (ps.map (·.1)) f)).2
theorem pm_fst {ps : Met} {i : Nat} (h : i < ps.length) : (pm ps i).1 = gm (ps.map (·.1)) i := by
  rw [pm_eq h, gm_eq (by simpa using h), List.getElem_map]
theorem wordOf_pm {ps : Met} (hn : (ps.map (·.1)).Nodup) {i : Nat} (h : i < ps.length) : wordOf ps (pm ps i).1 = (pm ps i).2 := by
  rw [wordOf, pm_fst h, ix_gm hn (by simpa using h)]
end
set_option maxRecDepth 100000
def Rel (E : List M) (l r : Bool) (f x : M) : Prop :=
  if l = true then (if r = true then JJ E f x else LL E f x) else (if r = true then RR E f x else f = x)
instance (E : List M) (l r : Bool) (f x : M) : Decidable (Rel E l r f x) := by unfold Rel; infer_instance
section
variable {gens E Q : List M} {n : Int} {l r : Bool} {f x g : M}
theorem closL (hm : Mnd n E) (hE : ∀ x, x ∈ E ↔ Mon gens n x) (hG : Pts n gens) (hQ : ∀ f ∈ Q, f ∈ E) (hc : ∀ f ∈ Q, ∀ g ∈ gens, mul g f ∈ Q) {x : M} (hx : Mon gens n x) : ∀ f ∈ Q, mul x f ∈ Q := by
  induction hx with
  | one => intro f hf; rw [hm.one1 (hQ f hf)]; exact hf
  | snoc h hg ih =>
    intro f hf
    rw [hm.assoc ((hE _).2 h) ((hE _).2 (Mon.gen hG hg))]
    exact ih _ (hc f hf _ hg)
theorem closR (hm : Mnd n E) (hE : ∀ x, x ∈ E ↔ Mon gens n x) (hQ : ∀ f ∈ Q, f ∈ E) (hc : ∀ f ∈ Q, ∀ g ∈ gens, mul f g ∈ Q) {x : M} (hx : Mon gens n x) : ∀ f ∈ Q, mul f x ∈ Q := by
  induction hx with
  | one => intro f hf; rw [hm.mul1 (hQ f hf)]; exact hf
  | snoc h hg ih =>
    intro f hf
    rw [← hm.assoc (hQ f hf) ((hE _).2 h)]
    exact hc _ (ih f hf) _ hg
theorem reach_all (hm : Mnd n E) (hE : ∀ x, x ∈ E ↔ Mon gens n x) (hG : Pts n gens) (hQ : ∀ f ∈ Q, f ∈ E) (hf : f ∈ Q)
    (hL : l = true → ∀ f ∈ Q, ∀ g ∈ gens, mul g f ∈ Q) (hR : r = true → ∀ f ∈ Q, ∀ g ∈ gens, mul f g ∈ Q) (h : Rel E l r f x) : x ∈ Q := by
  unfold Rel at h
  split at h
  · rename_i hl
    split at h
    · rename_i hr
      obtain ⟨a, ha, b, hb, rfl⟩ := h
      exact closL hm hE hG hQ (hL hl) ((hE _).1 ha) _ (closR hm hE hQ (hR hr) ((hE _).1 hb) _ hf)
    · obtain ⟨a, ha, rfl⟩ := h
      exact closL hm hE hG hQ (hL hl) ((hE _).1 ha) _ hf
  · split at h
    · rename_i hr
      obtain ⟨a, ha, rfl⟩ := h
      exact closR hm hE hQ (hR hr) ((hE _).1 ha) _ hf
    · exact h ▸ hf
theorem Rel.refl (hm : Mnd n E) (hf : f ∈ E) : Rel E l r f f := by
  unfold Rel
  split
  · split
    · exact JJ.refl hm hf
    · exact LL.refl hm hf
  · split
    · exact RR.refl hm hf
    · rfl
theorem Rel.left (hm : Mnd n E) (_ : f ∈ E) (hg : g ∈ E) (hl : l = true) (h : Rel E l r f x) : Rel E l r f (mul g x) := by
  unfold Rel at h ⊢
  rw [if_pos hl] at h ⊢
  split at h
  · rename_i hr
    obtain ⟨a, ha, b, hb, rfl⟩ := h
    rw [if_pos hr]
    exact ⟨_, hm.mulE _ hg _ ha, b, hb, hm.assoc hg ha⟩
  · rename_i hr
    obtain ⟨a, ha, rfl⟩ := h
    rw [if_neg hr]
    exact ⟨_, hm.mulE _ hg _ ha, hm.assoc hg ha⟩
theorem Rel.right (hm : Mnd n E) (hf : f ∈ E) (hg : g ∈ E) (hr : r = true) (h : Rel E l r f x) : Rel E l r f (mul x g) := by
  unfold Rel at h ⊢
  split at h
  · rename_i hl
    obtain ⟨a, ha, b, hb, rfl⟩ := h
    rw [if_pos hl, if_pos hr]
    exact ⟨a, ha, _, hm.mulE _ hb _ hg, by rw [hm.assoc ha (hm.mulE _ hf _ hb), hm.assoc hf hb]⟩
  · rename_i hl
    obtain ⟨a, ha, rfl⟩ := h
    rw [if_neg hl, if_pos hr]
    exact ⟨_, hm.mulE _ ha _ hg, (hm.assoc hf ha).symm⟩
theorem Rel.mem (hm : Mnd n E) (hf : f ∈ E) (h : Rel E l r f x) : x ∈ E := by
  unfold Rel at h
  split at h
  · split at h
    · exact h.mem hm hf
    · exact h.mem hm hf
  · split at h
    · exact h.mem hm hf
    · exact h ▸ hf
end
/-! ### numbers of classes -/
section
variable {E : List M} {n : Int}
end
set_option maxRecDepth 100000
def mxTo (g : Nat → Nat) : Nat → Nat
  | 0 => 0
  | k + 1 => max (mxTo g k) (g k)
theorem mxTo_le {g : Nat → Nat} {b : Nat} : ∀ {k : Nat}, (∀ j, j < k → g j ≤ b) → mxTo g k ≤ b
  | 0, _ => Nat.zero_le _
  | k + 1, h => by
    have h1 := mxTo_le (k := k) fun j hj => h j (by omega)
    have h2 := h k (by omega)
    rw [mxTo]; omega
theorem le_mxTo {g : Nat → Nat} : ∀ {k j : Nat}, j < k → g j ≤ mxTo g k
  | 0, _, h => by omega
  | k + 1, j, h => by
    rw [mxTo]
    by_cases e : j = k
    · subst e; omega
    · have := le_mxTo (g := g) (k := k) (j := j) (by omega); omega
section
variable (u : Nat → Nat → Bool) (N : Nat)
end
section
variable {u : Nat → Nat → Bool} {N : Nat} {mu : Nat → Nat}
/-! ### rounds that raise values up to the depth -/
def own (cls : Nat → Nat) (u : Nat → Nat → Bool) (N : Nat) (D : Nat → Nat) (i : Nat) : Nat := 1 + mxTo (fun k => if u i k then D (cls k) else 0) N
end
/-! ### elements under others -/
section
variable {E : List M} {n : Int}
end
set_option maxRecDepth 100000
/-! ### sets as words -/
def wdTo (p : Nat → Bool) (b : Nat) : Nat → Nat
  | 0 => 0
  | k + 1 => wdTo p b k ||| (if p (b + k) then 2 ^ k else 0)
def wd (p : Nat → Bool) (q : Nat) : Nat := wdTo p (64 * q) 64
/-! ### the sets of ideals -/
section
variable {E : List M} {n : Int}
/-! ### the grid -/
end
/-! ### words by length -/
def cntStep (out : List Int) (k : Nat) : List Int :=
  (out ++ List.replicate (k + 1 - out.length) 0).set k (gi (out ++ List.replicate (k + 1 - out.length) 0) k + 1)
def cntOf (ks : List Nat) : List Int := ks.foldl cntStep []
theorem gi_pad (xs : List Int) (m j : Nat) : gi (xs ++ List.replicate m 0) j = gi xs j := by
  by_cases h : j < xs.length
  · exact gi_app h
  · rw [gi_out (zs := xs) (by omega)]
    by_cases h2 : j < (xs ++ List.replicate m (0 : Int)).length
    · rw [gi_eq h2, List.getElem_append_right (by omega)]; simp
    · exact gi_out (by omega)
theorem cntStep_length (out : List Int) (k : Nat) : (cntStep out k).length = max out.length (k + 1) := by
  unfold cntStep; rw [List.length_set, List.length_append, List.length_replicate]; omega
theorem cntStep_gi (out : List Int) (k j : Nat) : gi (cntStep out k) j = gi out j + if j = k then 1 else 0 := by
  have hl := cntStep_length out k
  by_cases hj : j < (cntStep out k).length
  · rw [gi_eq hj]
    unfold cntStep at hj ⊢
    rw [List.getElem_set]
    rw [List.length_set] at hj
    by_cases e : k = j
    · rw [if_pos e, if_pos e.symm, gi_pad, e]
    · rw [if_neg e, if_neg (Ne.symm e), ← gi_eq hj, gi_pad, Int.add_zero]
  · rw [gi_out (by omega), gi_out (zs := out) (by omega), if_neg (by omega)]; rfl
theorem cntOf_snoc (ks : List Nat) (k : Nat) : cntOf (ks ++ [k]) = cntStep (cntOf ks) k := by simp [cntOf]
theorem foldl_len : ∀ (ks : List Nat) (out : List Int), (ks.foldl cntStep out).length = max out.length (mxTo (fun i => ks.getD i 0 + 1) ks.length) 
  | [], out => by simp [mxTo]
  | k :: ks, out => by
    rw [List.foldl_cons, foldl_len ks, cntStep_length]
    have : mxTo (fun i => (k :: ks).getD i 0 + 1) (k :: ks).length = max (k + 1) (mxTo (fun i => ks.getD i 0 + 1) ks.length) := by
      refine Nat.le_antisymm (mxTo_le fun j hj => ?_) ?_
      · match j, hj with
        | 0, _ => exact Nat.le_max_left _ _
        | j + 1, hj =>
          have := le_mxTo (g := fun i => ks.getD i 0 + 1) (k := ks.length) (j := j) (by simpa using hj)
          simp only [List.getD_cons_succ]
          exact Nat.le_trans this (Nat.le_max_right _ _)
      · refine Nat.max_le.2 ⟨?_, mxTo_le fun j hj => ?_⟩
        · have := le_mxTo (g := fun i => (k :: ks).getD i 0 + 1) (k := (k :: ks).length) (j := 0) (by simp)
          simpa using this
        · have := le_mxTo (g := fun i => (k :: ks).getD i 0 + 1) (k := (k :: ks).length) (j := j + 1) (by simpa using hj)
          simpa using this
    rw [this]; omega
theorem foldl_gi (j : Nat) : ∀ (ks : List Nat) (out : List Int), gi (ks.foldl cntStep out) j = gi out j + (ks.count j : Int)
  | [], out => by simp
  | k :: ks, out => by
    rw [List.foldl_cons, foldl_gi j ks, cntStep_gi, List.count_cons]
    by_cases e : k = j
    · subst e; simp; omega
    · have e' : ¬ j = k := fun h => e h.symm
      simp [e, e']
theorem perm_mx {ks ks' : List Nat} (h : ∀ k, k ∈ ks → k ∈ ks') : mxTo (fun i => ks.getD i 0 + 1) ks.length ≤ mxTo (fun i => ks'.getD i 0 + 1) ks'.length := by
  refine mxTo_le fun j hj => ?_
  have hm : ks.getD j 0 ∈ ks := by simp [List.getD, hj]
  obtain ⟨i, hi, e⟩ := List.getElem_of_mem (h _ hm)
  have := le_mxTo (g := fun i => ks'.getD i 0 + 1) hi
  have e2 : ks'.getD i 0 = ks.getD j 0 := by rw [← e]; simp [List.getD, hi]
  simp only [e2] at this
  exact this
theorem cntOf_perm {ks ks' : List Nat} (h : ks.Perm ks') : cntOf ks = cntOf ks' := by
  refine ext_gi ?_ fun j _ => ?_
  · unfold cntOf
    rw [foldl_len, foldl_len]
    have h1 := perm_mx (ks := ks) (ks' := ks') fun k hk => h.mem_iff.1 hk
    have h2 := perm_mx (ks := ks') (ks' := ks) fun k hk => h.mem_iff.2 hk
    omega
  · unfold cntOf
    rw [foldl_gi, foldl_gi, h.count_eq]
theorem words_perm {gens : List M} {n : Int} {ps : Met} (h : clo gens n = some ps) : ((sortM (ps.map (·.1))).map (wordOf ps)).Perm (ps.map (·.2)) := by
  have hg := (clo_good h).1
  have hp : (sortM (ps.map (·.1))).Perm (ps.map (·.1)) := (List.perm_ext_iff_of_nodup (sortM_asc _).nodup hg.nd).2 fun z => sortM_mem
  have e : (ps.map (·.1)).map (wordOf ps) = ps.map (·.2) := by
    rw [List.map_map]
    refine List.map_congr_left fun q hq => ?_
    obtain ⟨i, hi, e⟩ := List.getElem_of_mem hq
    have := wordOf_pm hg.nd hi
    rw [pm_eq hi, e] at this
    exact this
  rw [← e]
  exact hp.map _
set_option maxRecDepth 100000
def parts (n : Nat) : Nat → Nat → List (List Int)
  | _, 0 => [[]]
  | from_, c + 1 => (List.range' from_ (n - from_)).flatMap fun i => (parts n (i + 1) c).map fun l => (i : Int) :: l
end Go.Proofs.YtchjegojcpbfpaaGreat

namespace Go.Proofs.YtchjegojcpbfpaaGreat
open Go.RowKit
set_option maxRecDepth 100000
abbrev st6at (w : World) (q o : Nat) (m : M) : World := (((((w.setCell ⟨q, o, none⟩ (I m.p)).setCell ⟨q, o + 1, none⟩ (I m.t0)).setCell ⟨q, o + 2, none⟩ (I m.t1)).setCell ⟨q, o + 3, none⟩ (I m.t2)).setCell ⟨q, o + 4, none⟩ (I m.t3)).setCell ⟨q, o + 5, none⟩ (I m.t4)
theorem Rd.st6at {k n B : Nat} {w : World} {A : Option Addr} {cs : List Value} (h : Rd k w B A n cs) {q : Nat} (hB : B ≤ q) (o : Nat) (m : M) : Rd k (Go.Proofs.YtchjegojcpbfpaaGreat.st6at w q o m) B A n cs :=
  (((((h.setCell (p := ⟨q, o, none⟩) hB _).setCell (p := ⟨q, o + 1, none⟩) hB _).setCell (p := ⟨q, o + 2, none⟩) hB _).setCell (p := ⟨q, o + 3, none⟩) hB _).setCell (p := ⟨q, o + 4, none⟩) hB _).setCell (p := ⟨q, o + 5, none⟩) hB _
theorem mcs_set (m : M) : ∀ {ms : List M} {k : Nat}, k < ms.length → mcs (ms.set k m) = ((((((mcs ms).set (k * 6) (I m.p)).set (k * 6 + 1) (I m.t0)).set (k * 6 + 2) (I m.t1)).set (k * 6 + 3) (I m.t2)).set (k * 6 + 4) (I m.t3)).set (k * 6 + 5) (I m.t4)
  | [], _, h => by simp at h
  | m0 :: ms, 0, _ => by simp [mcs]
  | m0 :: ms, k + 1, h => by
    have ih := mcs_set m (ms := ms) (k := k) (by simpa using h)
    have e : ∀ j, (k + 1) * 6 + j = k * 6 + j + 6 := fun j => by omega
    have e0 : (k + 1) * 6 = k * 6 + 6 := by omega
    rw [List.set_cons_succ, mcs_cons, ih, mcs_cons, e0]
    simp only [Nat.add_right_comm (k * 6) 6]
    rfl
theorem OwM.spot {e : TypeId} {w : World} {B : Nat} {v : Value} {ms : List M} (h : OwM e w B v ms) {k : Nat} (hk : k < ms.length) : ∃ g c, v = .slice (some ⟨g, 0, none⟩) ms.length c ∧ B ≤ g ∧ g < w.heap.size ∧ SixAt w g (k * 6) (gm ms k) ∧ (∀ o, w.frozen? ⟨g, o, none⟩ = false) ∧
    ∀ m, OwM e (st6at w g (k * 6) m) B v (ms.set k m) := by
  obtain ⟨A, c, hv, hr⟩ := h.form
  rcases h.2 with ⟨_, h0⟩ | ⟨g, cap, cur, rfl, hg, hh, hn, hm, hs, ht⟩
  · omega
  · injection hv with hA _ _
    obtain ⟨b, off, e1, _, hsix⟩ := hr.at_ hk
    rw [← hA] at e1
    injection e1 with e1
    injection e1 with e1 e2 _
    subst e1 e2
    rw [Nat.zero_add] at hsix
    have hB : Blk w g e cur := hh
    refine ⟨g, cap, rfl, hg, hB.lt, hsix, hB.frozen, fun m => ⟨mcs_length _, .inr ⟨g, cap, _, by rw [List.length_set], hg, (((((hB.set_ _ _).set_ _ _).set_ _ _).set_ _ _).set_ _ _).set_ _ _, by simpa using hn, hm, by simpa using hs, ?_⟩⟩⟩
    simp only [Array.toList_setIfInBounds, List.take_set, List.length_set]
    rw [ht, mcs_set m hk]
theorem OwM.spotAt {e : TypeId} {w : World} {B g n c : Nat} {ms : List M} (h : OwM e w B (.slice (some ⟨g, 0, none⟩) n c) ms) {k : Nat} (hk : k < ms.length) : B ≤ g ∧ g < w.heap.size ∧ SixAt w g (k * 6) (gm ms k) ∧ (∀ o, w.frozen? ⟨g, o, none⟩ = false) ∧
    ∀ m, OwM e (st6at w g (k * 6) m) B (.slice (some ⟨g, 0, none⟩) n c) (ms.set k m) := by
  obtain ⟨g', c', he, hgB, hgl, h6, hfr, hs⟩ := h.spot hk
  injection he with he1 _ he2
  injection he1 with he1
  injection he1 with he1 _
  subst he1
  exact ⟨hgB, hgl, h6, hfr, hs⟩
theorem OwM.nilA {e : TypeId} {w : World} {B n c : Nat} {A : Option Addr} {ms : List M} (h : OwM e w B (.slice A n c) ms) : A = none → n = 0 ∧ c = 0 := by
  rintro rfl
  rcases h.2 with ⟨he, _⟩ | ⟨g, cap, cur, he, _⟩
  · injection he with _ h1 h2
    exact ⟨h1, h2⟩
  · injection he with h1 _ _
    cases h1
end Go.Proofs.YtchjegojcpbfpaaGreat

namespace Go.Proofs.YtchjegojcpbfpaaGreat
open Go.RowKit
set_option maxRecDepth 100000
theorem Clone_any (b off c : Nat) (ys : List Int) (w : World) (hy : RdI w w.heap.size (some ⟨b, off, none⟩) ys) (hpos : 0 < ys.length) (hn : ys.length < 1073741824) :
    Calls Tryz.prog 106 #[.slice (some ⟨b, off, none⟩) ys.length c] w fun e w' => ∃ g cap, e = .returned (.slice (some ⟨g, 0, none⟩) ys.length cap) ∧ OwI 2 w' w.heap.size (.slice (some ⟨g, 0, none⟩) ys.length cap) ys ∧ Below w.heap.size w w' := by
  have hnil := fun w => Lib.run_eql_slice_nil (P := Tryz.prog) w 39 2 (some ⟨b, off, none⟩) ys.length c 0 0 Tryz.underlying39
  go_enter Tryz.func106, Tryz.ntmps106
  go_wp2_with (at_builtin; refine wpList_appI rfl (.tmp 5) (.tmp 6) rfl w.heap.size _ [] rfl (OwI.made' rfl (Nat.le_refl _)) b off c ys rfl (Rd.more (Rd.alloc hy (Nat.le_refl _) _) (by simp)) hpos (by simpa using hn) (by simp) (w.heap.size + 1) (by simp) ?_; intro g' cap w1 hown' hgr hg' hlt')
  go_ret
  refine ⟨g', cap, by simp, by simpa using hown', ?_⟩
  exact (OwI.made' rfl (Nat.le_refl _) : OwI 2 _ w.heap.size _ []).bel (by (repeat (first | with_reducible assumption | with_reducible exact Below.refl _ _ | with_reducible refine Below.setCell ?_ (by first | omega | (simp <;> omega)) _ | with_reducible refine Below.alloc ?_ (by first | omega | (simp <;> omega)) _ | with_reducible refine Below.drew ?_ | with_reducible refine Below.drewN ?_ _))) hgr (Nat.le_refl _) (by simp)
end Go.Proofs.YtchjegojcpbfpaaGreat

namespace Go.Proofs.YtchjegojcpbfpaaGreat
open Go.RowKit
set_option maxRecDepth 100000
theorem OwM.room {w : World} {B cap : Nat} {cs : Array Value} (hb : B ≤ w.heap.size) (hc : cs.size = cap * 6) (hm : cap ≤ maxLen) : OwM 31 (w.alloc (.cells cs 31)) B (.slice (some ⟨w.heap.size, 0, none⟩) 0 cap) [] :=
  ⟨by simp [mcs], .inr ⟨_, cap, cs, rfl, hb, heap_alloc_new w _, Nat.zero_le _, hm, hc, by simp [mcs]⟩⟩
theorem grow_any (n : Nat) (w : World) (hn : n < 2147483648) :
    Calls Tryz.prog 129 #[.slice none 0 0, .int .i64 n] w fun e w' => ∃ v, e = .returned v ∧ OwM 31 w' w.heap.size v [] ∧ Below w.heap.size w w' := by
  obtain ⟨i, hi, hz0, hz1, hz2⟩ := info_parts infoM
  by_cases h : 0 < n
  · have hr := fun w' : World => Lib.run_append_nil_zeros (P := Tryz.prog) w' 24 3 24 31 i (.agg (mc M0)) .i64 .i64 Tryz.underlying24 Tryz.underlying3 hi hz0 n h (by omega) (by omega) (by rw [hz2]; omega)
    have Hr := Lib.hid hr
    have hw0 : IntKind.i64.wrap ((n : Int) - 0) = n := IntWalk.i64_in _ ⟨by omega, by omega⟩
    clear hr
    go_enter Tryz.func129, Tryz.ntmps129
    go_wp2_with (at_builtin; refine Lib.wpList_append_run _ rfl (.tmp 20) (.tmp 21) 24 3 rfl _ _ rfl rfl _ _ (Hr.out _) ?_)
    go_ret
    exact ⟨_, rfl, OwM.room (w := w.drew) (Nat.le_refl _) (by simp [size_zeroCells]; have := grownCap_ge w n 0 31; omega) (grownCap_le_maxLen _ _ _ _ (by unfold maxLen; omega)), by (repeat (first | with_reducible assumption | with_reducible exact Below.refl _ _ | with_reducible refine Below.setCell ?_ (by first | omega | (simp <;> omega)) _ | with_reducible refine Below.alloc ?_ (by first | omega | (simp <;> omega)) _ | with_reducible refine Below.drew ?_ | with_reducible refine Below.drewN ?_ _))⟩
  · obtain rfl : n = 0 := by omega
    go_enter Tryz.func129, Tryz.ntmps129
    go_wp2
    go_ret
    exact ⟨_, rfl, OwM.nil_, Below.refl _ _⟩
theorem wpList_catM {w : World} {ops : Array Oper} {rest : List Oper} {o : Oper} {a : Act} {Q : Exit → Act → World → Prop} (hgd : o.guard = none) (s x : Operand)
    (ho : o.op = .call { callee := .builtin .append, args := #[s, x], argTypes := #[24, 24] }) (B : Nat) (v : Value) (ms xs : List M) (hs : a.eval s = v) (hown : OwM 31 w B v ms)
    (A : Option Addr) (n c : Nat) (hx : a.eval x = .slice A n c) (hA : A = none → n = 0 ∧ c = 0) (hy : RdM w w.heap.size A xs) (hn : xs.length = n)
    (hb : ms.length + n < 1073741824) (hB : B ≤ w.heap.size)
    (h : ∀ v' w', OwM 31 w' B v' (ms ++ xs) → w.grownBy w' v.ownBlock → wpList Tryz.prog ops Q rest (a.put o.dst v') w') : wpList Tryz.prog ops Q (o :: rest) a w := by
  obtain ⟨i, hi, hz0, hz1, hz2⟩ := info_parts infoM
  subst hn
  cases A with
  | none =>
    obtain ⟨h0, rfl⟩ := hA rfl
    obtain rfl : xs = [] := List.eq_nil_of_length_eq_zero h0
    refine wpList_append_own_none hgd s x 24 ho B 31 i 6 Tryz.underlying24 hi v ms.length (mcs ms) hs hown hx ?_
    exact h v w (by rw [List.append_nil]; exact hown) (World.grownBy.refl w _)
  | some ad =>
    refine wpList_append_own w hgd s x 24 ho B 31 i (.agg (mc M0)) 6 48 Tryz.underlying24 hi hz0 hz1 hz2 rfl (by decide) v ms.length (mcs ms) hs hown ad xs.length c (mcs xs) hx (mcs_length _) ?_ mcs_one (by unfold maxLen; omega) (by omega) hB ?_
    · intro j u hj
      have hpos : 0 < xs.length := by
        rcases Nat.eq_zero_or_pos xs.length with h0 | h0
        · rw [List.eq_nil_of_length_eq_zero h0] at hj; simp [mcs] at hj
        · exact h0
      obtain ⟨b', off', e, _, hc⟩ := hy.2 hpos
      injection e with e
      subst e
      have := hc j u hj
      unfold Addr.add
      split
      · rename_i h0; subst h0; simpa using this
      · exact this
    · intro v' w' h1 h2 _
      refine h v' w' ?_ h2
      unfold OwM
      rw [mcs_app, List.length_append]
      exact h1
def catTo (ms xs : List M) : Nat → List M
  | 0 => []
  | 1 => ms
  | _ => ms ++ xs
theorem concat_any (g c : Nat) (A1 A2 : Option Addr) (n1 c1 n2 c2 : Nat) (ms xs : List M) (w : World) (g0 : w.cell? ⟨g, 0, none⟩ = some (.slice A1 n1 c1)) (g1 : w.cell? ⟨g, 1, none⟩ = some (.slice A2 n2 c2))
    (hx : RdM w w.heap.size A1 ms) (hy : RdM w w.heap.size A2 xs) (hn : ms.length = n1) (hm : xs.length = n2) (hA1 : A1 = none → n1 = 0 ∧ c1 = 0) (hA2 : A2 = none → n2 = 0 ∧ c2 = 0) (hb : n1 + n2 < 1073741824) :
    Calls Tryz.prog 118 #[.slice (some ⟨g, 0, none⟩) 2 c] w fun e w' => ∃ v, e = .returned v ∧ OwM 31 w' w.heap.size v (ms ++ xs) ∧ Below w.heap.size w w' := by
  have Hx := Lib.hid hx
  have Hy := Lib.hid hy
  have Hn := Lib.hid hn
  have Hm := Lib.hid hm
  have HA1 := Lib.hid hA1
  have HA2 := Lib.hid hA2
  have hgl : g < w.heap.size := World.block_lt_of_cell? w ⟨g, 0, none⟩ g0
  clear hx hy hn hm hA1 hA2
  go_enter Tryz.func118, Tryz.ntmps118
  go_wp2
  go_loop [3, 11] (fun s i => (s = .int .i64 0 ∧ i = .int .i64 0) ∨ (s = .int .i64 n1 ∧ i = .int .i64 1) ∨ (s = .int .i64 ((n1 + n2 : Nat) : Int) ∧ i = .int .i64 2)) (fun _ i => 2 - (intOf i).toNat)
  case atStart => exact .inl ⟨rfl, rfl⟩
  case round =>
    rcases hrel with ⟨rfl, rfl⟩ | ⟨rfl, rfl⟩ | ⟨rfl, rfl⟩
    · go_wp2
      go_round
      case rel => exact .inr (.inl ⟨by go_num, by go_num⟩)
      case measure => simp [intOf]
    · go_wp2
      go_round
      case rel => exact .inr (.inr ⟨by go_num, by go_num⟩)
      case measure => simp [intOf]
    · go_wp2_with fail
      refine (grow_any (n1 + n2) _ (by omega)).mono ?_
      rintro e w1 ⟨v, rfl, ho, hb1⟩
      go_wp2_with fail
      go_loopw [6, 27] (fun v i wr => ∃ k : Nat, k ≤ 2 ∧ i = .int .i64 k ∧ OwM 31 wr w.heap.size v (catTo ms xs k) ∧ Below w.heap.size w wr) (fun _ i _ => 2 - (intOf i).toNat)
      case atStart => exact ⟨0, by omega, rfl, ho, hb1⟩
      case round =>
        clear ho hb1
        obtain ⟨k, hk, rfl, ho, hbel⟩ := hrel
        have d0 := (hbel.cell (p := ⟨g, 0, none⟩) hgl).trans g0
        have d1 := (hbel.cell (p := ⟨g, 1, none⟩) hgl).trans g1
        match k, hk with
        | 0, _ =>
          go_wp2_with (at_builtin; refine wpList_catM rfl (.tmp 31) (.tmp 32) rfl w.heap.size _ [] ms rfl ho A1 n1 c1 rfl HA1.out (Rd.more (Rd.below Hx.out hbel) hbel.size) Hn.out (by simp; omega) hbel.size ?_; intro v' w4 ho' hgr)
          go_roundw
          case rel => exact ⟨1, by omega, by go_num, ho', ho.bel hbel hgr (Nat.le_refl _) hbel.size⟩
          case measure => simp [intOf]
        | 1, _ =>
          go_wp2_with (at_builtin; refine wpList_catM rfl (.tmp 31) (.tmp 32) rfl w.heap.size _ ms xs rfl ho A2 n2 c2 rfl HA2.out (Rd.more (Rd.below Hy.out hbel) hbel.size) Hm.out (by rw [Hn.out]; omega) hbel.size ?_; intro v' w4 ho' hgr)
          go_roundw
          case rel => exact ⟨2, by omega, by go_num, ho', ho.bel hbel hgr (Nat.le_refl _) hbel.size⟩
          case measure => simp [intOf]
        | 2, _ =>
          go_wp2
          go_ret
          exact ⟨_, rfl, ho, hbel⟩
/-! ### the code of a list -/
theorem all_gm {p : M → Bool} {l : List M} : l.all p = true ↔ ∀ j, j < l.length → p (gm l j) = true := by
  rw [List.all_eq_true]
  constructor
  · intro h j hj; rw [gm_eq hj]; exact h _ (List.getElem_mem hj)
  · intro h x hx
    obtain ⟨j, hj, rfl⟩ := List.getElem_of_mem hx
    have := h j hj
    rwa [gm_eq hj] at this
theorem all_gm_false {p : M → Bool} {l : List M} {j : Nat} (hj : j < l.length) (h : p (gm l j) = false) : l.all p = false := by
  rw [Bool.eq_false_iff]; intro ht; have := all_gm.1 ht j hj; rw [h] at this; cases this
def sameP (ms : List M) (f : M) : Bool := decide (f.p = (gm ms 0).p)
def codeL (ms xs : List M) : Int := if (ms ++ xs).all isMap then (if inR ms.length 1 6 && (ms ++ xs).all (sameP ms) then 0 else 2) else 1
theorem codeL_inv {ms xs : List M} (h : (ms ++ xs).all isMap = false) : codeL ms xs = 1 := by simp [codeL, h]
theorem codeL_len {ms xs : List M} (h : (ms ++ xs).all isMap = true) (hl : inR ms.length 1 6 = false) : codeL ms xs = 2 := by simp [codeL, h, hl]
theorem codeL_p {ms xs : List M} (h : (ms ++ xs).all isMap = true) (hp : (ms ++ xs).all (sameP ms) = false) : codeL ms xs = 2 := by simp [codeL, h, hp]
theorem codeL_ok {ms xs : List M} (h : (ms ++ xs).all isMap = true) (hl : inR ms.length 1 6 = true) (hp : (ms ++ xs).all (sameP ms) = true) : codeL ms xs = 0 := by simp [codeL, h, hl, hp]
theorem codeL_zero {ms xs : List M} : codeL ms xs = 0 ↔ (ms ++ xs).all isMap = true ∧ inR ms.length 1 6 = true ∧ (ms ++ xs).all (sameP ms) = true := by
  unfold codeL
  cases (ms ++ xs).all isMap <;> cases inR ms.length 1 6 <;> cases (ms ++ xs).all (sameP ms) <;> simp
theorem listCode_any (A1 A2 : Option Addr) (n1 c1 n2 c2 : Nat) (ms xs : List M) (w : World) (hx : RdM w w.heap.size A1 ms) (hy : RdM w w.heap.size A2 xs) (hn : ms.length = n1) (hm : xs.length = n2)
    (hA1 : A1 = none → n1 = 0 ∧ c1 = 0) (hA2 : A2 = none → n2 = 0 ∧ c2 = 0) (hb : n1 + n2 < 1073741824) :
    Calls Tryz.prog 84 #[.slice A1 n1 c1, .slice A2 n2 c2] w fun e w' => e = .returned (I (codeL ms xs)) ∧ Below w.heap.size w w' := by
  have Hx := Lib.hid hx
  have Hy := Lib.hid hy
  have Hn := Lib.hid hn
  have Hm := Lib.hid hm
  have HA1 := Lib.hid hA1
  have HA2 := Lib.hid hA2
  obtain ⟨N, hN⟩ : ∃ N, N = n1 + n2 := ⟨_, rfl⟩
  have HL : Hid ((ms ++ xs).length = N) := by show _ = _; rw [List.length_append, Hn.out, Hm.out, hN]
  have hNb : N < 1073741824 := by omega
  clear hx hy hn hm hA1 hA2
  go_enter Tryz.func84, Tryz.ntmps84
  go_wp2_with fail
  refine (concat_any w.heap.size 2 A1 A2 n1 c1 n2 c2 ms xs _ ((Blk.new _ _ _).cell 0) ((Blk.new _ _ _).cell 1) (Rd.more (Rd.alloc Hx.out (Nat.le_refl _) _) (by simp)) (Rd.more (Rd.alloc Hy.out (Nat.le_refl _) _) (by simp)) Hn.out Hm.out HA1.out HA2.out hb).mono ?_
  rintro e w1 ⟨v, rfl, ho, hb1⟩
  obtain ⟨A, c, hv, hr⟩ := ho.form
  rw [HL.out] at hv
  subst hv
  have hbel : Below w.heap.size w w1 := Below.trans (by (repeat (first | with_reducible assumption | with_reducible exact Below.refl _ _ | with_reducible refine Below.setCell ?_ (by first | omega | (simp <;> omega)) _ | with_reducible refine Below.alloc ?_ (by first | omega | (simp <;> omega)) _ | with_reducible refine Below.drew ?_ | with_reducible refine Below.drewN ?_ _))) (hb1.mono (by simp))
  have Hr := Lib.hid hr
  clear ho hb1 hr
  go_wp2_with fail
  go_loopw [14] (fun i wr => ∃ k : Nat, k ≤ N ∧ i = .int .i64 k ∧ Hid (∀ j, j < k → isMap (gm (ms ++ xs) j) = true) ∧ Below w1.heap.size w1 wr) (fun i _ => N - (intOf i).toNat)
  case atStart => exact ⟨0, by omega, rfl, fun j hj => absurd hj (by omega), Below.refl _ _⟩
  case round =>
    obtain ⟨k, hk, rfl, hg, hbl⟩ := hrel
    by_cases hlt : k < N
    · obtain ⟨b, off, rfl, hbb, c0, c1, c2, c3, c4, c5⟩ := RdM.at_ (Rd.below Hr.out hbl) (k := k) (by rw [HL.out]; exact hlt)
      have hwz := hbl.size
      cases hi : isMap (gm (ms ++ xs) k)
      · have Hc : Hid (codeL ms xs = 1) := codeL_inv (all_gm_false (by rw [HL.out]; exact hlt) hi)
        go_wp2_with fail
        refine (isMap_any _ _).mono ?_
        rintro e w2 ⟨rfl, hb2⟩
        rw [hi]
        have hb0 := hbel.trans (hbl.mono hbel.size)
        have hbz : Below w.heap.size w w2 := (hb0.alloc hb0.size _).trans (hb2.mono (by simp; have := hb0.size; omega))
        clear hb2
        go_wp2
        go_ret
        exact ⟨ret_int Hc.out.symm, hbz⟩
      · have Hs : Hid (∀ j, j < k + 1 → isMap (gm (ms ++ xs) j) = true) := by
          intro j hj
          by_cases e : j = k
          · subst e; exact hi
          · exact hg.out j (by omega)
        go_wp2_with fail
        refine (isMap_any _ _).mono ?_
        rintro e w2 ⟨rfl, hb2⟩
        rw [hi]
        have hbz : Below w1.heap.size w1 w2 := (hbl.alloc hwz _).trans (hb2.mono (by simp; omega))
        clear hb2
        go_wp2
        go_roundw
        case rel => exact ⟨k + 1, by omega, by go_num, Hs.out, hbz⟩
        case measure => simp [intOf]; omega
    · obtain rfl : k = N := by omega
      have Hall : Hid ((ms ++ xs).all isMap = true) := all_gm.2 fun j hj => hg.out j (by rw [HL.out] at hj; exact hj)
      replace hbel := hbel.trans (hbl.mono hbel.size)
      have HX : Hid (RdM wr w.heap.size A1 ms) := Rd.below Hx.out hbel
      have HY : Hid (RdM wr w.heap.size A2 xs) := Rd.below Hy.out hbel
      clear hbl hg Hr
      have Hq := Lib.hid (within_any n1 1 6 wr)
      cases hin : inR n1 1 6
      · have Hc : Hid (codeL ms xs = 2) := codeL_len Hall.out (by rw [Hn.out]; exact hin)
        go_wp2_with fail
        refine (within_any _ _ _ _).mono ?_
        rintro e w2 ⟨rfl, rfl⟩
        rw [hin]
        go_wp2
        go_ret
        exact ⟨ret_int Hc.out.symm, hbel⟩
      · have hn1 := inR_true.1 hin
        have hwz := hbel.size
        go_wp2_with fail
        refine (within_any _ _ _ _).mono ?_
        rintro e w2 ⟨rfl, rfl⟩
        rw [hin]
        go_wp2_with fail
        refine (concat_any wr.heap.size 2 A1 A2 n1 c1 n2 c2 ms xs _ ((Blk.new _ _ _).cell 0) ((Blk.new _ _ _).cell 1) (Rd.more (Rd.alloc HX.out hwz _) (by simp; omega)) (Rd.more (Rd.alloc HY.out hwz _) (by simp; omega)) Hn.out Hm.out HA1.out HA2.out hb).mono ?_
        rintro e w2 ⟨v, rfl, ho, hb1⟩
        obtain ⟨A', c', hv, hr⟩ := ho.form
        rw [HL.out] at hv
        subst hv
        have hbel2 : Below w.heap.size w w2 := (hbel.alloc hwz _).trans (hb1.mono (by simp; omega))
        have Hr := Lib.hid hr
        have HX2 : Hid (RdM w2 w.heap.size A1 ms) := Rd.below Hx.out hbel2
        have hw2 := hbel2.size
        clear ho hb1 hr hbel HX HY
        go_wp2_with fail
        go_loopw [31] (fun i wr => ∃ j : Nat, j ≤ k ∧ i = .int .i64 j ∧ Hid (∀ i, i < j → sameP ms (gm (ms ++ xs) i) = true) ∧ Below w2.heap.size w2 wr) (fun i _ => k - (intOf i).toNat)
        case atStart => exact ⟨0, by omega, rfl, fun j hj => absurd hj (by omega), Below.refl _ _⟩
        case round =>
          obtain ⟨j, hj, rfl, hg, hbl⟩ := hrel
          by_cases hlt : j < k
          · obtain ⟨b, off, rfl, hbb, c0, c1, c2, c3, c4, c5⟩ := RdM.at_ (Rd.below Hr.out hbl) (k := j) (by rw [HL.out]; exact hlt)
            obtain ⟨b1, off1, rfl, hbb1, d0, _⟩ := RdM.at_ (Rd.below' HX2.out hbl hw2) (k := 0) (by rw [Hn.out]; omega)
            have hwz := hbl.size
            have hpos : (0 : Int) < (n1 : Int) := by omega
            have hpos' : 0 < n1 := by omega
            have d1 := d0
            simp only [Nat.zero_mul, Nat.add_zero] at d1
            clear d0
            have hb1r : b1 < wr.heap.size := by omega
            have hb1n : b1 ≠ wr.heap.size := by omega
            cases hp : ((gm (ms ++ xs) j).p != (gm ms 0).p)
            · have Hs : Hid (∀ i, i < j + 1 → sameP ms (gm (ms ++ xs) i) = true) := by
                intro i hi
                by_cases e : i = j
                · subst e; simpa [sameP] using hp
                · exact hg.out i (by omega)
              go_wp2_with fail
              go_quiet (fail)
              go_wp2
              go_roundw
              case rel => exact ⟨j + 1, by omega, by go_num, Hs.out, (hbl.alloc hwz _).drewN _⟩
              case measure => simp [intOf]; omega
            · have Hc : Hid (codeL ms xs = 2) := codeL_p Hall.out (all_gm_false (j := j) (by rw [HL.out]; exact hlt) (by
                rw [sameP, decide_eq_false_iff_not]
                simpa using hp))
              go_wp2_with fail
              go_quiet (fail)
              go_wp2
              go_ret
              exact ⟨ret_int Hc.out.symm, hbel2.trans (((hbl.alloc hwz _).drewN _).mono hw2)⟩
          · obtain rfl : j = k := by omega
            have Hc : Hid (codeL ms xs = 0) := codeL_ok Hall.out (by rw [Hn.out]; exact hin) (all_gm.2 fun i hi => hg.out i (by rw [HL.out] at hi; exact hi))
            go_wp2
            go_ret
            exact ⟨ret_int Hc.out.symm, hbel2.trans (hbl.mono hw2)⟩
/-! ### the reference's code of a list -/
def same6 (ms : List M) : Bool := inR ms.length 1 6 && ms.all fun f => isMap f && sameP ms f
theorem same6_len {ms : List M} (h : inR ms.length 1 6 = false) : same6 ms = false := by simp [same6, h]
theorem same6_no {ms : List M} {j : Nat} (hj : j < ms.length) (h : (isMap (gm ms j) && sameP ms (gm ms j)) = false) : same6 ms = false := by
  unfold same6
  rw [all_gm_false (p := fun f => isMap f && sameP ms f) hj h, Bool.and_false]
theorem same6_yes {ms : List M} (h : inR ms.length 1 6 = true) (ha : ∀ j, j < ms.length → (isMap (gm ms j) && sameP ms (gm ms j)) = true) : same6 ms = true := by
  unfold same6
  rw [h, Bool.true_and, all_gm]
  exact ha
theorem codeL_1 {ms xs : List M} (h : ms.all isMap = false) : codeL ms xs = 1 := codeL_inv (by rw [List.all_append, h, Bool.false_and])
theorem codeL_2 {ms xs : List M} (h : xs.all isMap = false) : codeL ms xs = 1 := codeL_inv (by rw [List.all_append, h, Bool.and_false])
theorem codeL_3 {ms xs : List M} (h1 : ms.all isMap = true) (h2 : xs.all isMap = true) (h : same6 ms = false) : codeL ms xs = 2 := by
  have h3 : (ms ++ xs).all isMap = true := by rw [List.all_append, h1, h2]; rfl
  cases hl : inR ms.length 1 6
  · exact codeL_len h3 hl
  · refine codeL_p h3 ?_
    rw [same6, hl, Bool.true_and] at h
    rw [List.all_append, Bool.and_eq_false_iff]; left
    rw [List.all_eq_false] at h ⊢
    obtain ⟨x, hx, hn⟩ := h
    refine ⟨x, hx, fun hs => hn ?_⟩
    rw [hs, List.all_eq_true.1 h1 x hx]; rfl
theorem same6_iff {ms : List M} (h : same6 ms = true) : inR ms.length 1 6 = true ∧ ms.all (sameP ms) = true := by
  rw [same6, Bool.and_eq_true] at h
  refine ⟨h.1, ?_⟩
  rw [List.all_eq_true] at h ⊢
  intro x hx
  have := h.2 x hx
  rw [Bool.and_eq_true] at this
  exact this.2
theorem codeL_4 {ms xs : List M} (h1 : ms.all isMap = true) (h2 : xs.all isMap = true) (h : xs.all (sameP ms) = false) : codeL ms xs = 2 :=
  codeL_p (by rw [List.all_append, h1, h2]; rfl) (by rw [List.all_append, h, Bool.and_false])
theorem codeL_5 {ms xs : List M} (h1 : ms.all isMap = true) (h2 : xs.all isMap = true) (h3 : same6 ms = true) (h : xs.all (sameP ms) = true) : codeL ms xs = 0 :=
  codeL_ok (by rw [List.all_append, h1, h2]; rfl) (same6_iff h3).1 (by rw [List.all_append, (same6_iff h3).2, h]; rfl)
theorem l01Is_at {f : M} {b : Bool} (h : isMap f = b) (w : World) : Calls Tryz.prog 116 #[.agg (mc f)] w fun e w' => e = .returned (.bool b) ∧ Below w.heap.size w w' := by
  rw [← h]; exact l01Is_any f w
theorem l01Same_any (A : Option Addr) (n c : Nat) (ms : List M) (w : World) (hx : RdM w w.heap.size A ms) (hn : ms.length = n) (hb : n < 1073741824) :
    Calls Tryz.prog 117 #[.slice A n c] w fun e w' => e = .returned (.bool (same6 ms)) ∧ Below w.heap.size w w' := by
  have Hx := Lib.hid hx
  have Hn := Lib.hid hn
  clear hx hn
  by_cases h1 : 1 ≤ n
  · by_cases h6 : n ≤ 6
    · have hin : Hid (inR ms.length 1 6 = true) := by show _ = _; rw [Hn.out, inR_true]; omega
      go_enter Tryz.func117, Tryz.ntmps117
      go_wp2
      go_loopw [3] (fun i wr => ∃ k : Nat, k ≤ n ∧ i = .int .i64 k ∧ Hid (∀ j, j < k → (isMap (gm ms j) && sameP ms (gm ms j)) = true) ∧ RdM wr w.heap.size A ms ∧ Below w.heap.size w wr) (fun i _ => n - (intOf i).toNat)
      case atStart => exact ⟨0, by omega, rfl, fun j hj => absurd hj (by omega), Hx.out, Below.refl _ _⟩
      case round =>
        obtain ⟨k, hk, rfl, hg, hr, hbel⟩ := hrel
        by_cases hlt : k < n
        · obtain ⟨b, off, rfl, hbb, s1⟩ := hr.at_ (k := k) (by rw [Hn.out]; exact hlt)
          obtain ⟨b', off', he, _, s2⟩ := hr.at_ (k := 0) (by rw [Hn.out]; omega)
          injection he with he
          injection he with e1 e2 _
          subst e1 e2
          have h0 : (0 : Int) ≤ (k : Int) := by omega
          have hk1 : (k : Int) < (n : Int) := by omega
          have hpos : (0 : Int) < (n : Int) := by omega
          have hpos' : 0 < n := by omega
          have s3 := s2.1
          simp only [Nat.zero_mul, Nat.add_zero] at s3
          have HS : Hid (SixAt wr.drew b (off + k * 6) (gm ms k) ∧ wr.drew.cell? ⟨b, off, none⟩ = some (I (gm ms 0).p) ∧ RdM wr.drew w.heap.size (some ⟨b, off, none⟩) ms ∧ Below w.heap.size w wr.drew) := ⟨s1, s3, hr, hbel.drew⟩
          have hsz := hbel.size
          clear hr hbel s1 s2 s3
          cases hi : isMap (gm ms k)
          · have Hr : Hid (same6 ms = false) := same6_no (j := k) (by rw [Hn.out]; exact hlt) (by rw [hi]; rfl)
            go_wp2_with fail
            refine wp_region_same [] rfl (by kernel_rfl) (by kernel_rfl) (by kernel_rfl) (fun w' => SixAt w' b (off + k * 6) (gm ms k) ∧ w'.cell? ⟨b, off, none⟩ = some (I (gm ms 0).p) ∧ RdM w' w.heap.size (some ⟨b, off, none⟩) ms ∧ Below w.heap.size w w') _
              [.slice (some ⟨b, off, none⟩) n c, I k, .pointer (some ⟨b, off + k * 6, none⟩), .agg (mc (gm ms k)), .bool false, .bool true, .bool true, undef, undef, undef, undef, undef, undef, undef, undef, undef, undef, .bool true]
              (by simp only [putAll, List.setIfInBounds_toArray, List.set_cons_succ, List.set_cons_zero]; rfl) HS.out ?hop ?hQ
            case hop =>
              refine FixBL.toL (fun w' w'' hS hb => ⟨hS.1.below hb hS.1.lt, (hb.cell (p := ⟨b, off, none⟩) (show b < w'.heap.size by have := hS.2.2.2.size; omega)).trans hS.2.1, Rd.below' hS.2.2.1 hb hS.2.2.2.size, hS.2.2.2.trans (hb.mono hS.2.2.2.size)⟩) _ _ ?_
              refine ⟨.inr ?_, .inr ?_, .inr ?_, .inr ?_, .inr ?_, .inr ?_, .inr ?_, .inr ?_, .inr ?_, .inr ?_, .inr ?_, .inr ?_, .inr ?_, .inr ?_, .inr ?_, .inr ?_, .inr ?_, .inr ?_, trivial⟩
              · (with_reducible refine FixB.of ?_ ?_; rfl; intro w' hS; have s0 := hS.1; clear hS; unfold Oper.wp; go_simp; first | done | exact Below.refl _ _)
              · (with_reducible refine FixB.of ?_ ?_; rfl; intro w' hS; have s0 := hS.1; clear hS; unfold Oper.wp; go_simp; first | done | exact Below.refl _ _)
              · (with_reducible refine FixB.of ?_ ?_; rfl; intro w' hS; have s0 := hS.1; clear hS; unfold Oper.wp; go_simp; first | done | exact Below.refl _ _)
              · (with_reducible refine FixB.of ?_ ?_; rfl; intro w' hS; have s0 := hS.1; clear hS; unfold Oper.wp; go_simp; first | done | exact Below.refl _ _)
              · (with_reducible refine FixB.of ?_ ?_; rfl; intro w' hS; have s3 := Lib.hid hS; unfold Oper.wp; clear hS; go_simp; refine (l01Is_at hi _).mono ?_; rintro e w1 ⟨rfl, hb⟩; exact ⟨rfl, hb⟩)
              · (with_reducible refine FixB.of ?_ ?_; rfl; intro w' hS; have s0 := hS.1; clear hS; unfold Oper.wp; go_simp; first | done | exact Below.refl _ _)
              · (with_reducible refine FixB.of ?_ ?_; rfl; intro w' hS; have s0 := hS.1; clear hS; unfold Oper.wp; go_simp; first | done | exact Below.refl _ _)
              · exact FixB.off (by first | rfl | kernel_rfl | (simp [Region.wanted, yielded]; done)) rfl
              · exact FixB.off (by first | rfl | kernel_rfl | (simp [Region.wanted, yielded]; done)) rfl
              · exact FixB.off (by first | rfl | kernel_rfl | (simp [Region.wanted, yielded]; done)) rfl
              · exact FixB.off (by first | rfl | kernel_rfl | (simp [Region.wanted, yielded]; done)) rfl
              · exact FixB.off (by first | rfl | kernel_rfl | (simp [Region.wanted, yielded]; done)) rfl
              · exact FixB.off (by first | rfl | kernel_rfl | (simp [Region.wanted, yielded]; done)) rfl
              · exact FixB.off (by first | rfl | kernel_rfl | (simp [Region.wanted, yielded]; done)) rfl
              · exact FixB.off (by first | rfl | kernel_rfl | (simp [Region.wanted, yielded]; done)) rfl
              · exact FixB.off (by first | rfl | kernel_rfl | (simp [Region.wanted, yielded]; done)) rfl
              · exact FixB.off (by first | rfl | kernel_rfl | (simp [Region.wanted, yielded]; done)) rfl
              · (with_reducible refine FixB.of ?_ ?_; rfl; intro w' hS; have s0 := hS.1; clear hS; unfold Oper.wp; go_simp; first | done | exact Below.refl _ _)
            case hQ =>
              intro w' hS _
              have Hb := Lib.hid hS.2.2.2
              clear hS HS
              go_wp2
              go_ret
              exact ⟨ret_bool Hr.out.symm, Hb.out⟩
          · cases hp : ((gm ms k).p != (gm ms 0).p)
            · have Hs : Hid (∀ j, j < k + 1 → (isMap (gm ms j) && sameP ms (gm ms j)) = true) := by
                intro j hj
                by_cases e : j = k
                · subst e
                  rw [hi, Bool.true_and]
                  simpa [sameP] using hp
                · exact hg.out j (by omega)
              go_wp2_with fail
              refine wp_region_same [] rfl (by kernel_rfl) (by kernel_rfl) (by kernel_rfl) (fun w' => SixAt w' b (off + k * 6) (gm ms k) ∧ w'.cell? ⟨b, off, none⟩ = some (I (gm ms 0).p) ∧ RdM w' w.heap.size (some ⟨b, off, none⟩) ms ∧ Below w.heap.size w w') _
                [.slice (some ⟨b, off, none⟩) n c, I k, .pointer (some ⟨b, off + k * 6, none⟩), .agg (mc (gm ms k)), .bool true, .bool false, .bool false, .slice (some ⟨b, off, none⟩) n c, I k, .pointer (some ⟨b, off + k * 6, none⟩), .pointer (some ⟨b, off + k * 6, none⟩), I (gm ms k).p, .slice (some ⟨b, off, none⟩) n c, .pointer (some ⟨b, off, none⟩), .pointer (some ⟨b, off, none⟩), I (gm ms 0).p, .bool false, .bool false]
                (by simp only [putAll, List.setIfInBounds_toArray, List.set_cons_succ, List.set_cons_zero]; rfl) HS.out ?hop ?hQ
              case hop =>
                refine FixBL.toL (fun w' w'' hS hb => ⟨hS.1.below hb hS.1.lt, (hb.cell (p := ⟨b, off, none⟩) (show b < w'.heap.size by have := hS.2.2.2.size; omega)).trans hS.2.1, Rd.below' hS.2.2.1 hb hS.2.2.2.size, hS.2.2.2.trans (hb.mono hS.2.2.2.size)⟩) _ _ ?_
                refine ⟨.inr ?_, .inr ?_, .inr ?_, .inr ?_, .inr ?_, .inr ?_, .inr ?_, .inr ?_, .inr ?_, .inr ?_, .inr ?_, .inr ?_, .inr ?_, .inr ?_, .inr ?_, .inr ?_, .inr ?_, .inr ?_, trivial⟩
                · (with_reducible refine FixB.of ?_ ?_; rfl; intro w' hS; have s0 := hS.1; have s1 := hS.2.1; clear hS; unfold Oper.wp; go_simp; first | done | exact Below.refl _ _)
                · (with_reducible refine FixB.of ?_ ?_; rfl; intro w' hS; have s0 := hS.1; have s1 := hS.2.1; clear hS; unfold Oper.wp; go_simp; first | done | exact Below.refl _ _)
                · (with_reducible refine FixB.of ?_ ?_; rfl; intro w' hS; have s0 := hS.1; have s1 := hS.2.1; clear hS; unfold Oper.wp; go_simp; first | done | exact Below.refl _ _)
                · (with_reducible refine FixB.of ?_ ?_; rfl; intro w' hS; have s0 := hS.1; have s1 := hS.2.1; clear hS; unfold Oper.wp; go_simp; first | done | exact Below.refl _ _)
                · (with_reducible refine FixB.of ?_ ?_; rfl; intro w' hS; have s3 := Lib.hid hS; unfold Oper.wp; clear hS; go_simp; refine (l01Is_at hi _).mono ?_; rintro e w1 ⟨rfl, hb⟩; exact ⟨rfl, hb⟩)
                · (with_reducible refine FixB.of ?_ ?_; rfl; intro w' hS; have s0 := hS.1; have s1 := hS.2.1; clear hS; unfold Oper.wp; go_simp; first | done | exact Below.refl _ _)
                · (with_reducible refine FixB.of ?_ ?_; rfl; intro w' hS; have s0 := hS.1; have s1 := hS.2.1; clear hS; unfold Oper.wp; go_simp; first | done | exact Below.refl _ _)
                · (refine FixB.on (by first | rfl | kernel_rfl | (simp [Region.wanted, yielded]; done)) ?_; intro w' hS; have s0 := hS.1; have s1 := hS.2.1; clear hS; unfold Oper.wp; go_simp; first | done | exact Below.refl _ _)
                · (refine FixB.on (by first | rfl | kernel_rfl | (simp [Region.wanted, yielded]; done)) ?_; intro w' hS; have s0 := hS.1; have s1 := hS.2.1; clear hS; unfold Oper.wp; go_simp; first | done | exact Below.refl _ _)
                · (refine FixB.on (by first | rfl | kernel_rfl | (simp [Region.wanted, yielded]; done)) ?_; intro w' hS; have s0 := hS.1; have s1 := hS.2.1; clear hS; unfold Oper.wp; go_simp; first | done | exact Below.refl _ _)
                · (refine FixB.on (by first | rfl | kernel_rfl | (simp [Region.wanted, yielded]; done)) ?_; intro w' hS; have s0 := hS.1; have s1 := hS.2.1; clear hS; unfold Oper.wp; go_simp; first | done | exact Below.refl _ _)
                · (refine FixB.on (by first | rfl | kernel_rfl | (simp [Region.wanted, yielded]; done)) ?_; intro w' hS; have s0 := hS.1; have s1 := hS.2.1; clear hS; unfold Oper.wp; go_simp; first | done | exact Below.refl _ _)
                · (refine FixB.on (by first | rfl | kernel_rfl | (simp [Region.wanted, yielded]; done)) ?_; intro w' hS; have s0 := hS.1; have s1 := hS.2.1; clear hS; unfold Oper.wp; go_simp; first | done | exact Below.refl _ _)
                · (refine FixB.on (by first | rfl | kernel_rfl | (simp [Region.wanted, yielded]; done)) ?_; intro w' hS; have s0 := hS.1; have s1 := hS.2.1; clear hS; unfold Oper.wp; go_simp; first | done | exact Below.refl _ _)
                · (refine FixB.on (by first | rfl | kernel_rfl | (simp [Region.wanted, yielded]; done)) ?_; intro w' hS; have s0 := hS.1; have s1 := hS.2.1; clear hS; unfold Oper.wp; go_simp; first | done | exact Below.refl _ _)
                · (refine FixB.on (by first | rfl | kernel_rfl | (simp [Region.wanted, yielded]; done)) ?_; intro w' hS; have s0 := hS.1; have s1 := hS.2.1; clear hS; unfold Oper.wp; go_simp; first | done | exact Below.refl _ _)
                · (refine FixB.on (by first | rfl | kernel_rfl | (simp [Region.wanted, yielded]; done)) ?_; intro w' hS; have s0 := hS.1; have s1 := hS.2.1; clear hS; unfold Oper.wp; go_simp; first | done | exact Below.refl _ _)
                · (with_reducible refine FixB.of ?_ ?_; rfl; intro w' hS; have s0 := hS.1; have s1 := hS.2.1; clear hS; unfold Oper.wp; go_simp; first | done | exact Below.refl _ _)
              case hQ =>
                intro w' hS _
                have Hx' := Lib.hid hS.2.2.1
                have Hb := Lib.hid hS.2.2.2
                clear hS HS hp
                go_wp2
                go_roundw
                case rel => exact ⟨k + 1, by omega, by go_num, Hs.out, Hx'.out, Hb.out⟩
                case measure => simp [intOf]; omega
            · have Hr : Hid (same6 ms = false) := same6_no (j := k) (by rw [Hn.out]; exact hlt) (by
                rw [hi, Bool.true_and, sameP, decide_eq_false_iff_not]
                simpa using hp)
              go_wp2_with fail
              refine wp_region_same [] rfl (by kernel_rfl) (by kernel_rfl) (by kernel_rfl) (fun w' => SixAt w' b (off + k * 6) (gm ms k) ∧ w'.cell? ⟨b, off, none⟩ = some (I (gm ms 0).p) ∧ RdM w' w.heap.size (some ⟨b, off, none⟩) ms ∧ Below w.heap.size w w') _
                [.slice (some ⟨b, off, none⟩) n c, I k, .pointer (some ⟨b, off + k * 6, none⟩), .agg (mc (gm ms k)), .bool true, .bool false, .bool false, .slice (some ⟨b, off, none⟩) n c, I k, .pointer (some ⟨b, off + k * 6, none⟩), .pointer (some ⟨b, off + k * 6, none⟩), I (gm ms k).p, .slice (some ⟨b, off, none⟩) n c, .pointer (some ⟨b, off, none⟩), .pointer (some ⟨b, off, none⟩), I (gm ms 0).p, .bool true, .bool true]
                (by simp only [putAll, List.setIfInBounds_toArray, List.set_cons_succ, List.set_cons_zero]; rfl) HS.out ?hop ?hQ
              case hop =>
                refine FixBL.toL (fun w' w'' hS hb => ⟨hS.1.below hb hS.1.lt, (hb.cell (p := ⟨b, off, none⟩) (show b < w'.heap.size by have := hS.2.2.2.size; omega)).trans hS.2.1, Rd.below' hS.2.2.1 hb hS.2.2.2.size, hS.2.2.2.trans (hb.mono hS.2.2.2.size)⟩) _ _ ?_
                refine ⟨.inr ?_, .inr ?_, .inr ?_, .inr ?_, .inr ?_, .inr ?_, .inr ?_, .inr ?_, .inr ?_, .inr ?_, .inr ?_, .inr ?_, .inr ?_, .inr ?_, .inr ?_, .inr ?_, .inr ?_, .inr ?_, trivial⟩
                · (with_reducible refine FixB.of ?_ ?_; rfl; intro w' hS; have s0 := hS.1; have s1 := hS.2.1; clear hS; unfold Oper.wp; go_simp; first | done | exact Below.refl _ _)
                · (with_reducible refine FixB.of ?_ ?_; rfl; intro w' hS; have s0 := hS.1; have s1 := hS.2.1; clear hS; unfold Oper.wp; go_simp; first | done | exact Below.refl _ _)
                · (with_reducible refine FixB.of ?_ ?_; rfl; intro w' hS; have s0 := hS.1; have s1 := hS.2.1; clear hS; unfold Oper.wp; go_simp; first | done | exact Below.refl _ _)
                · (with_reducible refine FixB.of ?_ ?_; rfl; intro w' hS; have s0 := hS.1; have s1 := hS.2.1; clear hS; unfold Oper.wp; go_simp; first | done | exact Below.refl _ _)
                · (with_reducible refine FixB.of ?_ ?_; rfl; intro w' hS; have s3 := Lib.hid hS; unfold Oper.wp; clear hS; go_simp; refine (l01Is_at hi _).mono ?_; rintro e w1 ⟨rfl, hb⟩; exact ⟨rfl, hb⟩)
                · (with_reducible refine FixB.of ?_ ?_; rfl; intro w' hS; have s0 := hS.1; have s1 := hS.2.1; clear hS; unfold Oper.wp; go_simp; first | done | exact Below.refl _ _)
                · (with_reducible refine FixB.of ?_ ?_; rfl; intro w' hS; have s0 := hS.1; have s1 := hS.2.1; clear hS; unfold Oper.wp; go_simp; first | done | exact Below.refl _ _)
                · (refine FixB.on (by first | rfl | kernel_rfl | (simp [Region.wanted, yielded]; done)) ?_; intro w' hS; have s0 := hS.1; have s1 := hS.2.1; clear hS; unfold Oper.wp; go_simp; first | done | exact Below.refl _ _)
                · (refine FixB.on (by first | rfl | kernel_rfl | (simp [Region.wanted, yielded]; done)) ?_; intro w' hS; have s0 := hS.1; have s1 := hS.2.1; clear hS; unfold Oper.wp; go_simp; first | done | exact Below.refl _ _)
                · (refine FixB.on (by first | rfl | kernel_rfl | (simp [Region.wanted, yielded]; done)) ?_; intro w' hS; have s0 := hS.1; have s1 := hS.2.1; clear hS; unfold Oper.wp; go_simp; first | done | exact Below.refl _ _)
                · (refine FixB.on (by first | rfl | kernel_rfl | (simp [Region.wanted, yielded]; done)) ?_; intro w' hS; have s0 := hS.1; have s1 := hS.2.1; clear hS; unfold Oper.wp; go_simp; first | done | exact Below.refl _ _)
                · (refine FixB.on (by first | rfl | kernel_rfl | (simp [Region.wanted, yielded]; done)) ?_; intro w' hS; have s0 := hS.1; have s1 := hS.2.1; clear hS; unfold Oper.wp; go_simp; first | done | exact Below.refl _ _)
                · (refine FixB.on (by first | rfl | kernel_rfl | (simp [Region.wanted, yielded]; done)) ?_; intro w' hS; have s0 := hS.1; have s1 := hS.2.1; clear hS; unfold Oper.wp; go_simp; first | done | exact Below.refl _ _)
                · (refine FixB.on (by first | rfl | kernel_rfl | (simp [Region.wanted, yielded]; done)) ?_; intro w' hS; have s0 := hS.1; have s1 := hS.2.1; clear hS; unfold Oper.wp; go_simp; first | done | exact Below.refl _ _)
                · (refine FixB.on (by first | rfl | kernel_rfl | (simp [Region.wanted, yielded]; done)) ?_; intro w' hS; have s0 := hS.1; have s1 := hS.2.1; clear hS; unfold Oper.wp; go_simp; first | done | exact Below.refl _ _)
                · (refine FixB.on (by first | rfl | kernel_rfl | (simp [Region.wanted, yielded]; done)) ?_; intro w' hS; have s0 := hS.1; have s1 := hS.2.1; clear hS; unfold Oper.wp; go_simp; first | done | exact Below.refl _ _)
                · (refine FixB.on (by first | rfl | kernel_rfl | (simp [Region.wanted, yielded]; done)) ?_; intro w' hS; have s0 := hS.1; have s1 := hS.2.1; clear hS; unfold Oper.wp; go_simp; first | done | exact Below.refl _ _)
                · (with_reducible refine FixB.of ?_ ?_; rfl; intro w' hS; have s0 := hS.1; have s1 := hS.2.1; clear hS; unfold Oper.wp; go_simp; first | done | exact Below.refl _ _)
              case hQ =>
                intro w' hS _
                have Hb := Lib.hid hS.2.2.2
                clear hS HS hp
                go_wp2
                go_ret
                exact ⟨ret_bool Hr.out.symm, Hb.out⟩
        · obtain rfl : k = n := by omega
          have Hr : Hid (same6 ms = true) := same6_yes hin.out fun j hj => hg.out j (by rw [Hn.out] at hj; exact hj)
          go_wp2
          go_ret
          exact ⟨ret_bool Hr.out.symm, hbel⟩
    · have Hr : Hid (same6 ms = false) := same6_len (by rw [Hn.out, inR_false]; omega)
      have a1 : ¬ ((n : Int) < 1) := by omega
      have a2 : (6 : Int) < (n : Int) := by omega
      go_enter Tryz.func117, Tryz.ntmps117
      go_wp2
      go_ret
      exact ⟨ret_bool Hr.out.symm, Below.refl _ _⟩
  · obtain rfl : n = 0 := by omega
    have Hr : Hid (same6 ms = false) := same6_len (by rw [Hn.out, inR_false]; omega)
    go_enter Tryz.func117, Tryz.ntmps117
    go_wp2
    go_ret
    exact ⟨ret_bool Hr.out.symm, Below.refl _ _⟩
theorem l02Given_any (A1 A2 : Option Addr) (n1 c1 n2 c2 : Nat) (ms xs : List M) (w : World) (hx : RdM w w.heap.size A1 ms) (hy : RdM w w.heap.size A2 xs) (hn : ms.length = n1) (hm : xs.length = n2) (hb : n1 < 1073741824) (hb2 : n2 < 1073741824) :
    Calls Tryz.prog 82 #[.slice A1 n1 c1, .slice A2 n2 c2] w fun e w' => e = .returned (I (codeL ms xs)) ∧ Below w.heap.size w w' := by
  have Hx := Lib.hid hx
  have Hy := Lib.hid hy
  have Hn := Lib.hid hn
  have Hm := Lib.hid hm
  clear hx hy hn hm
  go_enter Tryz.func82, Tryz.ntmps82
  go_wp2
  go_loopw [5] (fun i wr => ∃ k : Nat, k ≤ n1 ∧ i = .int .i64 k ∧ Hid (∀ j, j < k → isMap (gm ms j) = true) ∧ Below w.heap.size w wr) (fun i _ => n1 - (intOf i).toNat)
  case atStart => exact ⟨0, by omega, rfl, fun j hj => absurd hj (by omega), Below.refl _ _⟩
  case round =>
    obtain ⟨k, hk, rfl, hg, hbl⟩ := hrel
    by_cases hlt : k < n1
    · obtain ⟨b, off, rfl, hbb, c0, c1, c2, c3, c4, c5⟩ := RdM.at_ (Rd.below Hx.out hbl) (k := k) (by rw [Hn.out]; exact hlt)
      have hwz := hbl.size
      cases hi : isMap (gm ms k)
      · have Hc : Hid (codeL ms xs = 1) := codeL_1 (all_gm_false (by rw [Hn.out]; exact hlt) hi)
        go_wp2_with fail
        refine (l01Is_at hi _).mono ?_
        rintro e w2 ⟨rfl, hb2⟩
        have hbz := hbl.trans (hb2.mono hwz)
        clear hb2
        go_wp2
        go_ret
        exact ⟨ret_int Hc.out.symm, hbz⟩
      · have Hs : Hid (∀ j, j < k + 1 → isMap (gm ms j) = true) := by
          intro j hj
          by_cases e : j = k
          · subst e; exact hi
          · exact hg.out j (by omega)
        go_wp2_with fail
        refine (l01Is_at hi _).mono ?_
        rintro e w2 ⟨rfl, hb2⟩
        have hbz := hbl.trans (hb2.mono hwz)
        clear hb2
        go_wp2
        go_roundw
        case rel => exact ⟨k + 1, by omega, by go_num, Hs.out, hbz⟩
        case measure => simp [intOf]; omega
    · obtain rfl : k = n1 := by omega
      have Hall : Hid (ms.all isMap = true) := all_gm.2 fun j hj => hg.out j (by rw [Hn.out] at hj; exact hj)
      clear hg
      go_wp2_with fail
      go_loopw [6] (fun i wr => ∃ k : Nat, k ≤ n2 ∧ i = .int .i64 k ∧ Hid (∀ j, j < k → isMap (gm xs j) = true) ∧ Below w.heap.size w wr) (fun i _ => n2 - (intOf i).toNat)
      case atStart => exact ⟨0, by omega, rfl, fun j hj => absurd hj (by omega), hbl⟩
      case round =>
        clear hbl
        obtain ⟨m, hm, rfl, hg, hbl⟩ := hrel
        have hwz := hbl.size
        by_cases hlt : m < n2
        · obtain ⟨b, off, rfl, hbb, c0, c1, c2, c3, c4, c5⟩ := RdM.at_ (Rd.below Hy.out hbl) (k := m) (by rw [Hm.out]; exact hlt)
          cases hi : isMap (gm xs m)
          · have Hc : Hid (codeL ms xs = 1) := codeL_2 (all_gm_false (by rw [Hm.out]; exact hlt) hi)
            go_wp2_with fail
            refine (l01Is_at hi _).mono ?_
            rintro e w2 ⟨rfl, hb2⟩
            have hbz := hbl.trans (hb2.mono hwz)
            clear hb2
            go_wp2
            go_ret
            exact ⟨ret_int Hc.out.symm, hbz⟩
          · have Hs : Hid (∀ j, j < m + 1 → isMap (gm xs j) = true) := by
              intro j hj
              by_cases e : j = m
              · subst e; exact hi
              · exact hg.out j (by omega)
            go_wp2_with fail
            refine (l01Is_at hi _).mono ?_
            rintro e w2 ⟨rfl, hb2⟩
            have hbz := hbl.trans (hb2.mono hwz)
            clear hb2
            go_wp2
            go_roundw
            case rel => exact ⟨m + 1, by omega, by go_num, Hs.out, hbz⟩
            case measure => simp [intOf]; omega
        · obtain rfl : m = n2 := by omega
          have Hall2 : Hid (xs.all isMap = true) := all_gm.2 fun j hj => hg.out j (by rw [Hm.out] at hj; exact hj)
          clear hg
          cases hs6 : same6 ms
          · have Hc : Hid (codeL ms xs = 2) := codeL_3 Hall.out Hall2.out hs6
            go_wp2_with fail
            refine (l01Same_any A1 k c1 ms _ (Rd.more (Rd.below Hx.out hbl) hwz) Hn.out hb).mono ?_
            rintro e w2 ⟨rfl, hb2⟩
            rw [hs6]
            have hbz := hbl.trans (hb2.mono hwz)
            clear hb2
            go_wp2
            go_ret
            exact ⟨ret_int Hc.out.symm, hbz⟩
          · have H6 := Lib.hid hs6
            have hn1 := inR_true.1 (same6_iff hs6).1
            rw [Hn.out] at hn1
            go_wp2_with fail
            refine (l01Same_any A1 k c1 ms _ (Rd.more (Rd.below Hx.out hbl) hwz) Hn.out hb).mono ?_
            rintro e w2 ⟨rfl, hb2⟩
            rw [hs6]
            replace hbl := hbl.trans (hb2.mono hwz)
            clear hb2 hwz hs6
            go_wp2_with fail
            go_loopw [7] (fun i wr => ∃ j : Nat, j ≤ m ∧ i = .int .i64 j ∧ Hid (∀ i, i < j → sameP ms (gm xs i) = true) ∧ Below w.heap.size w wr) (fun i _ => m - (intOf i).toNat)
            case atStart => exact ⟨0, by omega, rfl, fun j hj => absurd hj (by omega), hbl⟩
            case round =>
              clear hbl
              obtain ⟨j, hj, rfl, hg, hbl⟩ := hrel
              by_cases hlt : j < m
              · obtain ⟨b, off, rfl, hbb, c0, c1, c2, c3, c4, c5⟩ := RdM.at_ (Rd.below Hy.out hbl) (k := j) (by rw [Hm.out]; exact hlt)
                obtain ⟨b1, off1, rfl, hbb1, d0, _⟩ := RdM.at_ (Rd.below Hx.out hbl) (k := 0) (by rw [Hn.out]; omega)
                have d1 := d0
                simp only [Nat.zero_mul, Nat.add_zero] at d1
                clear d0 c1 c2 c3 c4 c5
                have h0 : (0 : Int) ≤ (j : Int) := by omega
                have h1 : (j : Int) < (m : Int) := by omega
                have hpos : (0 : Int) < (k : Int) := by omega
                have hpos' : 0 < k := by omega
                cases hp : ((gm xs j).p != (gm ms 0).p)
                · have Hs : Hid (∀ i, i < j + 1 → sameP ms (gm xs i) = true) := by
                    intro i hi
                    by_cases e : i = j
                    · subst e; simpa [sameP] using hp
                    · exact hg.out i (by omega)
                  go_wp2_with fail
                  go_quiet (fail)
                  go_wp2
                  go_roundw
                  case rel => exact ⟨j + 1, by omega, by go_num, Hs.out, hbl.drewN _⟩
                  case measure => simp [intOf]; omega
                · have Hc : Hid (codeL ms xs = 2) := codeL_4 Hall.out Hall2.out (all_gm_false (j := j) (by rw [Hm.out]; exact hlt) (by
                    rw [sameP, decide_eq_false_iff_not]
                    simpa using hp))
                  go_wp2_with fail
                  go_quiet (fail)
                  go_wp2
                  go_ret
                  exact ⟨ret_int Hc.out.symm, hbl.drewN _⟩
              · obtain rfl : j = m := by omega
                have Hc : Hid (codeL ms xs = 0) := codeL_5 Hall.out Hall2.out H6.out (all_gm.2 fun i hi => hg.out i (by rw [Hm.out] at hi; exact hi))
                go_wp2
                go_ret
                exact ⟨ret_int Hc.out.symm, hbl⟩
end Go.Proofs.YtchjegojcpbfpaaGreat
