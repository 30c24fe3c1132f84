/- Contracts of the order of maps; the maps are valid where the theorems say so. -/
import Derived.Test.YtkbfocoaobiijaaGreatC10
namespace Go.Proofs.YtkbfocoaobiijaaGreat
open Go.RowKit
set_option maxRecDepth 100000

theorem gi_imgs (f : M) {k n : Nat} (h : k < n) : gi (imgs f n) k = f.at k := by simp [gi, imgs, List.getD, h]
theorem cmpM_p {f g : M} (h : f.p ≠ g.p) : cmpM f g = cmpI f.p g.p := by rw [cmpM, or2, if_neg (cmpI_ne.2 h)]
theorem cmpM_e {f g : M} (h : f.p = g.p) : cmpM f g = cmpL (imgs f 5) (imgs g 5) := by rw [cmpM, or2, if_pos (cmpI_eq h)]
theorem cmpM_at {f g : M} {k : Nat} (h : f.p = g.p) (hk : k < 5) (he : ∀ j, j < k → f.at j = g.at j) (hn : f.at k ≠ g.at k) : cmpM f g = cmpI (f.at k) (g.at k) := by
  rw [cmpM_e h, cmpL_at (k := k) (by rw [imgs_length]; exact hk) (by rw [imgs_length]; exact hk) (fun j hj => by rw [gi_imgs f (by omega), gi_imgs g (by omega)]; exact he j hj) (by rw [gi_imgs f hk, gi_imgs g hk]; exact hn), gi_imgs f hk, gi_imgs g hk]
theorem cmpM_same {f g : M} (h : f.p = g.p) (he : ∀ j, j < 5 → f.at j = g.at j) : cmpM f g = 0 := by
  rw [cmpM_e h, cmpL_pre fun j h1 _ => by rw [imgs_length] at h1; rw [gi_imgs f h1, gi_imgs g h1]; exact he j h1, imgs_length, imgs_length, cmpI_eq rfl]
theorem cmpM_cases (f g : M) : (f = g ∧ cmpM f g = 0) ∨ (f.p ≠ g.p ∧ cmpM f g = cmpI f.p g.p) ∨ ∃ k, k < 5 ∧ f.p = g.p ∧ (∀ j, j < k → f.at j = g.at j) ∧ f.at k ≠ g.at k ∧ cmpM f g = cmpI (f.at k) (g.at k) := by
  by_cases hp : f.p = g.p
  · by_cases he : ∀ j, j < 5 → f.at j = g.at j
    · exact .inl ⟨M.ext5 hp he, cmpM_same hp he⟩
    · have : ∃ k, k < 5 ∧ f.at k ≠ g.at k := by
        refine Classical.byContradiction fun hc => he fun j hj => Classical.byContradiction fun hne => hc ⟨j, hj, hne⟩
      obtain ⟨k, ⟨hk, hne⟩, hmin⟩ := exists_least this
      have hj : ∀ j, j < k → f.at j = g.at j := fun j hj => Classical.byContradiction fun hc => by have := hmin j ⟨by omega, hc⟩; omega
      exact .inr (.inr ⟨k, hk, hp, hj, hne, cmpM_at hp hk hj hne⟩)
  · exact .inr (.inl ⟨hp, cmpM_p hp⟩)
theorem cmpM_swap (f g : M) : cmpM g f = - cmpM f g := by
  rcases cmpM_cases f g with ⟨rfl, h⟩ | ⟨hp, h⟩ | ⟨k, hk, hp, he, hn, h⟩
  · rw [h]; rfl
  · rw [h, cmpM_p (Ne.symm hp), cmpI_swap]
  · rw [h, cmpM_at hp.symm hk (fun j hj => (he j hj).symm) (Ne.symm hn), cmpI_swap]
theorem cmpM_bd (f g : M) : -1 ≤ cmpM f g ∧ cmpM f g ≤ 1 := by
  rcases cmpM_cases f g with ⟨rfl, h⟩ | ⟨hp, h⟩ | ⟨k, hk, hp, he, hn, h⟩
  · rw [h]; omega
  · rw [h]; exact cmpI_bd _ _
  · rw [h]; exact cmpI_bd _ _
theorem cmpM_zero {f g : M} : cmpM f g = 0 ↔ f = g := by
  constructor
  · intro h0
    rcases cmpM_cases f g with ⟨rfl, h⟩ | ⟨hp, h⟩ | ⟨k, hk, hp, he, hn, h⟩
    · rfl
    · rw [h] at h0; exact absurd h0 (cmpI_ne.2 hp)
    · rw [h] at h0; exact absurd h0 (cmpI_ne.2 hn)
  · rintro rfl; exact cmpM_same rfl fun _ _ => rfl

/-- does a map come before another one -/
def lessM (f g : M) : Bool := decide (cmpM f g = -1)
theorem lessM_ne {f g : M} (h : f.p ≠ g.p) : lessM f g = decide (f.p < g.p) := by
  rw [lessM, cmpM_p h, Bool.eq_iff_iff]; simp [cmpI_neg]
theorem lessM_at {f g : M} {k : Nat} (h : f.p = g.p) (hk : k < 5) (he : ∀ j, j < k → f.at j = g.at j) (hn : f.at k ≠ g.at k) : lessM f g = decide (f.at k < g.at k) := by
  rw [lessM, cmpM_at h hk he hn, Bool.eq_iff_iff]; simp [cmpI_neg]
theorem lessM_same {f g : M} (hf : Valid f) (hg : Valid g) (h : f.p = g.p) {k : Nat} (hk : ¬ (k : Int) < f.p) (he : ∀ j, j < k → f.at j = g.at j) : lessM f g = false := by
  rw [lessM, cmpM_same h]
  · rfl
  · intro j hj
    by_cases hj' : j < k
    · exact he j hj'
    · rw [hf.out j hj (by omega), hg.out j hj (by omega)]

theorem l01Less_any (f g : M) (w : World) (hf : Valid f) (hg : Valid g) :
    Calls Tryz.prog 199 #[.agg (mc f), .agg (mc g)] w fun e w' => e = .returned (.bool (lessM f g)) ∧ Below w.heap.size w w' := by
  have hp1 := hf.p1
  have hp5 := hf.p5
  by_cases hp : f.p = g.p
  · have hpb : (f.p != g.p) = false := by simp [hp]
    have Hp := Lib.hid hp
    clear hp
    go_enter Tryz.func199, Tryz.ntmps199
    go_wp2
    go_loopw [5] (fun i wr => ∃ k : Nat, (k : Int) ≤ f.p ∧ i = .int .i64 k ∧ Hid (∀ j, j < k → f.at j = g.at j) ∧ Blk wr w.heap.size 31 (mc f) ∧ Blk wr (w.heap.size + 1) 31 (mc g) ∧ Below w.heap.size w wr) (fun i _ => 5 - (intOf i).toNat)
    case atStart => exact ⟨0, by omega, rfl, fun j hj => absurd hj (by omega), (Blk.new _ _ _).alloc _, Blk.new' _ _ _ (by simp), by (repeat (first | with_reducible assumption | with_reducible exact Below.refl _ _ | with_reducible refine Below.setCell ?_ (by first | omega | (simp <;> omega)) _ | with_reducible refine Below.alloc ?_ (by first | omega | (simp <;> omega)) _ | with_reducible refine Below.drew ?_ | with_reducible refine Below.drewN ?_ _))⟩
    case round =>
      obtain ⟨k, hk, rfl, hs, hB1, hB2, hbel⟩ := hrel
      have c0 : wr.cell? ⟨w.heap.size, 0, none⟩ = some (I f.p) := hB1.cell 0
      by_cases hlt : (k : Int) < f.p
      · have hk5 : k < 5 := by omega
        have c1 := hB1.at_ hk5
        have c2 := hB2.at_ hk5
        have h0 : (0 : Int) ≤ (k : Int) := by omega
        have h1 : (k : Int) < 5 := by omega
        by_cases he : f.at k = g.at k
        · have heb : (f.at k != g.at k) = false := by simp [he]
          have Hs : Hid (∀ j, j < k + 1 → f.at j = g.at j) := by
            intro j hj; by_cases e : j = k
            · subst e; exact he
            · exact hs.out j (by omega)
          clear he
          go_wp2_with fail
          go_quiet (fail)
          go_wp2
          go_roundw
          case rel => exact ⟨k + 1, by omega, by go_num, Hs.out, hB1.drewN _, hB2.drewN _, hbel.drewN _⟩
          case measure => simp [intOf]; omega
        · have heb : (f.at k != g.at k) = true := by simp [he]
          have Hs : Hid (lessM f g = decide (f.at k < g.at k)) := lessM_at Hp.out hk5 hs.out he
          clear he
          cases hd : decide (f.at k < g.at k)
          all_goals
            go_wp2_with fail
            go_quiet (fail)
            go_wp2_with fail
            replace hB1 := hB1.drewN nq
            replace hB2 := hB2.drewN nq
            replace hbel := hbel.drewN nq
            clear c0 c1 c2
            generalize wr.drewN nq = w9 at hB1 hB2 hbel ⊢
            have c1 := hB1.at_ hk5
            have c2 := hB2.at_ hk5
            go_quiet (fail)
            go_wp2
            go_ret
            exact ⟨ret_bool (Hs.out.trans hd).symm, hbel.drewN _⟩
      · have Hs : Hid (lessM f g = false) := lessM_same hf hg Hp.out hlt hs.out
        go_wp2
        go_ret
        exact ⟨ret_bool Hs.out.symm, hbel⟩
  · have hpb : (f.p != g.p) = true := by simp [hp]
    have Hs := Lib.hid (lessM_ne hp)
    clear hp
    cases hd : decide (f.p < g.p)
    all_goals
      go_enter Tryz.func199, Tryz.ntmps199
      go_wp2
      go_ret
      exact ⟨ret_bool (Hs.out.trans hd).symm, by (repeat (first | with_reducible assumption | with_reducible exact Below.refl _ _ | with_reducible refine Below.setCell ?_ (by first | omega | (simp <;> omega)) _ | with_reducible refine Below.alloc ?_ (by first | omega | (simp <;> omega)) _ | with_reducible refine Below.drew ?_ | with_reducible refine Below.drewN ?_ _))⟩

def cmpC (f g : M) : Int := cInv (isMap f && isMap g)
def cmpR (f g : M) : Int := if isMap f && isMap g then cmpM f g else 0
theorem cmpR_bad1 {f g : M} (h : isMap f = false) : cmpR f g = 0 ∧ cmpC f g = 1 := by simp [cmpR, cmpC, h, cInv]
theorem cmpR_bad2 {f g : M} (h : isMap g = false) : cmpR f g = 0 ∧ cmpC f g = 1 := by simp [cmpR, cmpC, h, cInv]
theorem cmpR_good {f g : M} (h : isMap f = true) (h2 : isMap g = true) : cmpR f g = cmpM f g ∧ cmpC f g = 0 := by simp [cmpR, cmpC, h, h2, cInv]

theorem ImplCompareMaps_any (f g : M) (w : World) :
    Calls Tryz.prog 85 #[.agg (mc f), .agg (mc g)] w fun e w' => e = .returned (.tuple #[I (cmpR f g), I (cmpC f g)]) ∧ Below w.heap.size w w' := by
  cases h1 : isMap f
  · have Hr := Lib.hid (cmpR_bad1 (g := g) h1)
    go_enter Tryz.func85, Tryz.ntmps85
    go_wp2_with fail
    refine (isMap_any _ _).mono ?_
    rintro e w1 ⟨rfl, hb⟩
    have hl : Below w.heap.size w w1 := Below.trans (by (repeat (first | with_reducible assumption | with_reducible exact Below.refl _ _ | with_reducible refine Below.setCell ?_ (by first | omega | (simp <;> omega)) _ | with_reducible refine Below.alloc ?_ (by first | omega | (simp <;> omega)) _ | with_reducible refine Below.drew ?_ | with_reducible refine Below.drewN ?_ _))) (hb.mono (by simp; try omega))
    rw [h1]
    go_wp2
    go_ret2
    exact ⟨by rw [Hr.out.1, Hr.out.2] <;> rfl, hl⟩
  · cases h2 : isMap g
    · have Hr := Lib.hid (cmpR_bad2 (f := f) h2)
      go_enter Tryz.func85, Tryz.ntmps85
      go_wp2_with fail
      refine (isMap_any _ _).mono ?_
      rintro e w1 ⟨rfl, hb⟩
      have hl : Below w.heap.size w w1 := Below.trans (by (repeat (first | with_reducible assumption | with_reducible exact Below.refl _ _ | with_reducible refine Below.setCell ?_ (by first | omega | (simp <;> omega)) _ | with_reducible refine Below.alloc ?_ (by first | omega | (simp <;> omega)) _ | with_reducible refine Below.drew ?_ | with_reducible refine Below.drewN ?_ _))) (hb.mono (by simp; try omega))
      have hs : Six w1 (w.heap.size + 1) g := Six.below (Blk.six (Blk.new' _ _ _ (by simp))) hb (by simp)
      rw [h1]
      clear hb
      go_wp2_with fail
      refine (isMap_any _ _).mono ?_
      rintro e w2 ⟨rfl, hb⟩
      replace hl := hl.trans (hb.mono hl.size)
      rw [h2]
      go_wp2
      go_ret2
      exact ⟨by rw [Hr.out.1, Hr.out.2] <;> rfl, hl⟩
    · have hf := (isMap_iff f).1 h1
      have hg := (isMap_iff g).1 h2
      have Hr := Lib.hid (cmpR_good h1 h2)
      go_enter Tryz.func85, Tryz.ntmps85
      go_wp2_with fail
      refine (isMap_any _ _).mono ?_
      rintro e w1 ⟨rfl, hb⟩
      have hl : Below w.heap.size w w1 := Below.trans (by (repeat (first | with_reducible assumption | with_reducible exact Below.refl _ _ | with_reducible refine Below.setCell ?_ (by first | omega | (simp <;> omega)) _ | with_reducible refine Below.alloc ?_ (by first | omega | (simp <;> omega)) _ | with_reducible refine Below.drew ?_ | with_reducible refine Below.drewN ?_ _))) (hb.mono (by simp; try omega))
      have hs : Six w1 (w.heap.size + 1) g := Six.below (Blk.six (Blk.new' _ _ _ (by simp))) hb (by simp)
      have hs' : Six w1 w.heap.size f := Six.below (Blk.six ((Blk.new _ _ _).alloc _)) hb (by simp; try omega)
      rw [h1]
      clear hb
      go_wp2_with fail
      refine (isMap_any _ _).mono ?_
      rintro e w2 ⟨rfl, hb⟩
      replace hs := hs.below hb hs.lt
      replace hs' := hs'.below hb hs'.lt
      replace hl := hl.trans (hb.mono hl.size)
      rw [h2]
      clear hb
      go_wp2_with fail
      refine (compare_any f g _).mono ?_
      rintro e w3 ⟨rfl, hb⟩
      replace hl := hl.trans (hb.mono hl.size)
      go_wp2
      go_ret2
      exact ⟨by rw [Hr.out.1, Hr.out.2] <;> rfl, hl⟩

theorem SpecCompareMaps_any (f g : M) (w : World) :
    Calls Tryz.prog 86 #[.agg (mc f), .agg (mc g)] w fun e w' => e = .returned (.tuple #[I (cmpR f g), I (cmpC f g)]) ∧ Below w.heap.size w w' := by
  cases h1 : isMap f
  · have Hr := Lib.hid (cmpR_bad1 (g := g) h1)
    go_enter Tryz.func86, Tryz.ntmps86
    go_wp2_with fail
    refine (l01Is_any _ _).mono ?_
    rintro e w1 ⟨rfl, hb⟩
    have hl : Below w.heap.size w w1 := Below.trans (by (repeat (first | with_reducible assumption | with_reducible exact Below.refl _ _ | with_reducible refine Below.setCell ?_ (by first | omega | (simp <;> omega)) _ | with_reducible refine Below.alloc ?_ (by first | omega | (simp <;> omega)) _ | with_reducible refine Below.drew ?_ | with_reducible refine Below.drewN ?_ _))) (hb.mono (by simp; try omega))
    rw [h1]
    go_wp2
    go_ret2
    exact ⟨by rw [Hr.out.1, Hr.out.2] <;> rfl, hl⟩
  · cases h2 : isMap g
    · have Hr := Lib.hid (cmpR_bad2 (f := f) h2)
      go_enter Tryz.func86, Tryz.ntmps86
      go_wp2_with fail
      refine (l01Is_any _ _).mono ?_
      rintro e w1 ⟨rfl, hb⟩
      have hl : Below w.heap.size w w1 := Below.trans (by (repeat (first | with_reducible assumption | with_reducible exact Below.refl _ _ | with_reducible refine Below.setCell ?_ (by first | omega | (simp <;> omega)) _ | with_reducible refine Below.alloc ?_ (by first | omega | (simp <;> omega)) _ | with_reducible refine Below.drew ?_ | with_reducible refine Below.drewN ?_ _))) (hb.mono (by simp; try omega))
      have hs : Six w1 (w.heap.size + 1) g := Six.below (Blk.six (Blk.new' _ _ _ (by simp))) hb (by simp)
      rw [h1]
      clear hb
      go_wp2_with fail
      refine (l01Is_any _ _).mono ?_
      rintro e w2 ⟨rfl, hb⟩
      replace hl := hl.trans (hb.mono hl.size)
      rw [h2]
      go_wp2
      go_ret2
      exact ⟨by rw [Hr.out.1, Hr.out.2] <;> rfl, hl⟩
    · have hf := (isMap_iff f).1 h1
      have hg := (isMap_iff g).1 h2
      have Hr := Lib.hid (cmpR_good h1 h2)
      go_enter Tryz.func86, Tryz.ntmps86
      go_wp2_with fail
      refine (l01Is_any _ _).mono ?_
      rintro e w1 ⟨rfl, hb⟩
      have hl : Below w.heap.size w w1 := Below.trans (by (repeat (first | with_reducible assumption | with_reducible exact Below.refl _ _ | with_reducible refine Below.setCell ?_ (by first | omega | (simp <;> omega)) _ | with_reducible refine Below.alloc ?_ (by first | omega | (simp <;> omega)) _ | with_reducible refine Below.drew ?_ | with_reducible refine Below.drewN ?_ _))) (hb.mono (by simp; try omega))
      have hs : Six w1 (w.heap.size + 1) g := Six.below (Blk.six (Blk.new' _ _ _ (by simp))) hb (by simp)
      have hs' : Six w1 w.heap.size f := Six.below (Blk.six ((Blk.new _ _ _).alloc _)) hb (by simp; try omega)
      rw [h1]
      clear hb
      go_wp2_with fail
      refine (l01Is_any _ _).mono ?_
      rintro e w2 ⟨rfl, hb⟩
      replace hs := hs.below hb hs.lt
      replace hs' := hs'.below hb hs'.lt
      replace hl := hl.trans (hb.mono hl.size)
      rw [h2]
      clear hb
      have hbd := cmpM_bd f g
      have hsw := cmpM_swap f g
      cases hl1 : lessM f g
      · cases hl2 : lessM g f
        · have H0 : Hid (cmpM f g = 0) := by
            have a1 := of_decide_eq_false hl1; have a2 := of_decide_eq_false hl2
            show _ = _; omega
          clear hbd hsw
          go_wp2_with fail
          refine (l01Less_any f g _ hf hg).mono ?_
          rintro e w3 ⟨rfl, hb⟩
          replace hs := hs.below hb hs.lt
          replace hs' := hs'.below hb hs'.lt
          replace hl := hl.trans (hb.mono hl.size)
          rw [hl1]
          clear hb
          go_wp2_with fail
          refine (l01Less_any g f _ hg hf).mono ?_
          rintro e w4 ⟨rfl, hb⟩
          replace hl := hl.trans (hb.mono hl.size)
          rw [hl2]
          clear hb
          go_wp2
          go_ret2
          exact ⟨by rw [Hr.out.1, Hr.out.2, H0.out] <;> rfl, hl⟩
        · have H0 : Hid (cmpM f g = 1) := by
            have a2 := of_decide_eq_true hl2
            show _ = _; omega
          clear hbd hsw
          go_wp2_with fail
          refine (l01Less_any f g _ hf hg).mono ?_
          rintro e w3 ⟨rfl, hb⟩
          replace hs := hs.below hb hs.lt
          replace hs' := hs'.below hb hs'.lt
          replace hl := hl.trans (hb.mono hl.size)
          rw [hl1]
          clear hb
          go_wp2_with fail
          refine (l01Less_any g f _ hg hf).mono ?_
          rintro e w4 ⟨rfl, hb⟩
          replace hl := hl.trans (hb.mono hl.size)
          rw [hl2]
          clear hb
          go_wp2
          go_ret2
          exact ⟨by rw [Hr.out.1, Hr.out.2, H0.out] <;> rfl, hl⟩
      · have H0 : Hid (cmpM f g = -1) := (of_decide_eq_true hl1 : cmpM f g = -1)
        clear hbd hsw
        go_wp2_with fail
        refine (l01Less_any f g _ hf hg).mono ?_
        rintro e w3 ⟨rfl, hb⟩
        replace hl := hl.trans (hb.mono hl.size)
        rw [hl1]
        clear hb
        go_wp2
        go_ret2
        exact ⟨by rw [Hr.out.1, Hr.out.2, H0.out] <;> rfl, hl⟩

end Go.Proofs.YtkbfocoaobiijaaGreat
