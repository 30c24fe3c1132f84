/- Contracts of products of two maps; no conditions beyond those that each theorem states. -/
import Derived.Test.YtkbfocoaobiijaaC3
namespace Go.Proofs.Ytkbfocoaobiijaa
open Go.RowKit
set_option maxRecDepth 100000

/-- the code of two maps with as many points -/
def codeLike (f g : M) : Int := if isMap f && isMap g then (if f.p = g.p then 0 else 2) else 1

theorem codeLike_bad1 {f g : M} (h : isMap f = false) : codeLike f g = 1 := by simp [codeLike, h]

theorem codeLike_bad2 {f g : M} (h : isMap g = false) : codeLike f g = 1 := by simp [codeLike, h]

theorem codeLike_ne {f g : M} (h1 : isMap f = true) (h2 : isMap g = true) (h : ¬ f.p = g.p) : codeLike f g = 2 := by simp [codeLike, h1, h2, h]

theorem codeLike_eq {f g : M} (h1 : isMap f = true) (h2 : isMap g = true) (h : f.p = g.p) : codeLike f g = 0 := by simp [codeLike, h1, h2, h]

def like (f g : M) : Bool := isMap f && isMap g && decide (f.p = g.p)

theorem like_iff {f g : M} : like f g = true ↔ Valid f ∧ Valid g ∧ f.p = g.p := by simp [like, isMap_iff, and_assoc]

theorem codeLike_like (f g : M) : like f g = true ↔ codeLike f g = 0 := by
  unfold like codeLike
  cases isMap f <;> cases isMap g <;> simp

theorem pairCode_any (f g : M) (w : World) :
    Calls Try.prog 62 #[.agg (mc f), .agg (mc g)] w fun e w' => e = .returned (I (codeLike f g)) ∧ Below w.heap.size w w' := by
  cases h1 : isMap f
  · have Hr := Lib.hid (codeLike_bad1 (g := g) h1)
    go_enter Try.func62, Try.ntmps62
    go_wp2_with fail
    refine (isMap_any _ _).mono ?_
    rintro e w1 ⟨rfl, hb⟩
    go_wp2
    go_ret
    exact ⟨ret_int Hr.out.symm, Below.trans (by (repeat (first | with_reducible assumption | with_reducible exact Below.refl _ _ | with_reducible refine Below.setCell ?_ (by first | omega | (simp <;> omega)) _ | with_reducible refine Below.alloc ?_ (by first | omega | (simp <;> omega)) _ | with_reducible refine Below.drew ?_ | with_reducible refine Below.drewN ?_ _))) (hb.mono (by simp; try omega))⟩
  · cases h2 : isMap g
    · have Hr := Lib.hid (codeLike_bad2 (f := f) h2)
      go_enter Try.func62, Try.ntmps62
      go_wp2_with fail
      refine (isMap_any _ _).mono ?_
      rintro e w1 ⟨rfl, hb⟩
      have hl : Below w.heap.size w w1 := Below.trans (by (repeat (first | with_reducible assumption | with_reducible exact Below.refl _ _ | with_reducible refine Below.setCell ?_ (by first | omega | (simp <;> omega)) _ | with_reducible refine Below.alloc ?_ (by first | omega | (simp <;> omega)) _ | with_reducible refine Below.drew ?_ | with_reducible refine Below.drewN ?_ _))) (hb.mono (by simp; try omega))
      have hs : Six w1 (w.heap.size + 1) g := Six.below (Blk.six (Blk.new' _ _ _ (by simp))) hb (by simp)
      clear hb
      go_wp2_with fail
      refine (isMap_any _ _).mono ?_
      rintro e w2 ⟨rfl, hb⟩
      go_wp2
      go_ret
      exact ⟨ret_int Hr.out.symm, hl.trans (hb.mono hl.size)⟩
    · by_cases hp : f.p = g.p
      · have Hr := Lib.hid (codeLike_eq h1 h2 hp)
        have hpb : (f.p != g.p) = false := by simp [hp]
        clear hp
        go_enter Try.func62, Try.ntmps62
        go_wp2_with fail
        refine (isMap_any _ _).mono ?_
        rintro e w1 ⟨rfl, hb⟩
        have hl : Below w.heap.size w w1 := Below.trans (by (repeat (first | with_reducible assumption | with_reducible exact Below.refl _ _ | with_reducible refine Below.setCell ?_ (by first | omega | (simp <;> omega)) _ | with_reducible refine Below.alloc ?_ (by first | omega | (simp <;> omega)) _ | with_reducible refine Below.drew ?_ | with_reducible refine Below.drewN ?_ _))) (hb.mono (by simp; try omega))
        have hs : Six w1 (w.heap.size + 1) g := Six.below (Blk.six (Blk.new' _ _ _ (by simp))) hb (by simp)
        have hs' : Six w1 w.heap.size f := Six.below (Blk.six ((Blk.new _ _ _).alloc _)) hb (by simp; try omega)
        clear hb
        go_wp2_with fail
        refine (isMap_any _ _).mono ?_
        rintro e w2 ⟨rfl, hb⟩
        replace hs := hs.below hb hs.lt
        replace hs' := hs'.below hb hs'.lt
        go_wp2
        go_ret
        exact ⟨ret_int Hr.out.symm, hl.trans (hb.mono hl.size)⟩
      · have Hr := Lib.hid (codeLike_ne h1 h2 hp)
        have hpb : (f.p != g.p) = true := by simp [hp]
        clear hp
        go_enter Try.func62, Try.ntmps62
        go_wp2_with fail
        refine (isMap_any _ _).mono ?_
        rintro e w1 ⟨rfl, hb⟩
        have hl : Below w.heap.size w w1 := Below.trans (by (repeat (first | with_reducible assumption | with_reducible exact Below.refl _ _ | with_reducible refine Below.setCell ?_ (by first | omega | (simp <;> omega)) _ | with_reducible refine Below.alloc ?_ (by first | omega | (simp <;> omega)) _ | with_reducible refine Below.drew ?_ | with_reducible refine Below.drewN ?_ _))) (hb.mono (by simp; try omega))
        have hs : Six w1 (w.heap.size + 1) g := Six.below (Blk.six (Blk.new' _ _ _ (by simp))) hb (by simp)
        have hs' : Six w1 w.heap.size f := Six.below (Blk.six ((Blk.new _ _ _).alloc _)) hb (by simp; try omega)
        clear hb
        go_wp2_with fail
        refine (isMap_any _ _).mono ?_
        rintro e w2 ⟨rfl, hb⟩
        replace hs := hs.below hb hs.lt
        replace hs' := hs'.below hb hs'.lt
        go_wp2
        go_ret
        exact ⟨ret_int Hr.out.symm, hl.trans (hb.mono hl.size)⟩
theorem l01Like_any (f g : M) (w : World) :
    Calls Try.prog 64 #[.agg (mc f), .agg (mc g)] w fun e w' => e = .returned (I (codeLike f g)) ∧ Below w.heap.size w w' := by
  cases h1 : isMap f
  · have Hr := Lib.hid (codeLike_bad1 (g := g) h1)
    go_enter Try.func64, Try.ntmps64
    go_wp2_with fail
    refine (l01Is_any _ _).mono ?_
    rintro e w1 ⟨rfl, hb⟩
    go_wp2
    go_ret
    exact ⟨ret_int Hr.out.symm, Below.trans (by (repeat (first | with_reducible assumption | with_reducible exact Below.refl _ _ | with_reducible refine Below.setCell ?_ (by first | omega | (simp <;> omega)) _ | with_reducible refine Below.alloc ?_ (by first | omega | (simp <;> omega)) _ | with_reducible refine Below.drew ?_ | with_reducible refine Below.drewN ?_ _))) (hb.mono (by simp; try omega))⟩
  · cases h2 : isMap g
    · have Hr := Lib.hid (codeLike_bad2 (f := f) h2)
      go_enter Try.func64, Try.ntmps64
      go_wp2_with fail
      refine (l01Is_any _ _).mono ?_
      rintro e w1 ⟨rfl, hb⟩
      have hl : Below w.heap.size w w1 := Below.trans (by (repeat (first | with_reducible assumption | with_reducible exact Below.refl _ _ | with_reducible refine Below.setCell ?_ (by first | omega | (simp <;> omega)) _ | with_reducible refine Below.alloc ?_ (by first | omega | (simp <;> omega)) _ | with_reducible refine Below.drew ?_ | with_reducible refine Below.drewN ?_ _))) (hb.mono (by simp; try omega))
      have hs : Six w1 (w.heap.size + 1) g := Six.below (Blk.six (Blk.new' _ _ _ (by simp))) hb (by simp)
      clear hb
      go_wp2_with fail
      refine (l01Is_any _ _).mono ?_
      rintro e w2 ⟨rfl, hb⟩
      go_wp2
      go_ret
      exact ⟨ret_int Hr.out.symm, hl.trans (hb.mono hl.size)⟩
    · by_cases hp : f.p = g.p
      · have Hr := Lib.hid (codeLike_eq h1 h2 hp)
        have hpb : (f.p != g.p) = false := by simp [hp]
        clear hp
        go_enter Try.func64, Try.ntmps64
        go_wp2_with fail
        refine (l01Is_any _ _).mono ?_
        rintro e w1 ⟨rfl, hb⟩
        have hl : Below w.heap.size w w1 := Below.trans (by (repeat (first | with_reducible assumption | with_reducible exact Below.refl _ _ | with_reducible refine Below.setCell ?_ (by first | omega | (simp <;> omega)) _ | with_reducible refine Below.alloc ?_ (by first | omega | (simp <;> omega)) _ | with_reducible refine Below.drew ?_ | with_reducible refine Below.drewN ?_ _))) (hb.mono (by simp; try omega))
        have hs : Six w1 (w.heap.size + 1) g := Six.below (Blk.six (Blk.new' _ _ _ (by simp))) hb (by simp)
        have hs' : Six w1 w.heap.size f := Six.below (Blk.six ((Blk.new _ _ _).alloc _)) hb (by simp; try omega)
        clear hb
        go_wp2_with fail
        refine (l01Is_any _ _).mono ?_
        rintro e w2 ⟨rfl, hb⟩
        replace hs := hs.below hb hs.lt
        replace hs' := hs'.below hb hs'.lt
        go_wp2
        go_ret
        exact ⟨ret_int Hr.out.symm, hl.trans (hb.mono hl.size)⟩
      · have Hr := Lib.hid (codeLike_ne h1 h2 hp)
        have hpb : (f.p != g.p) = true := by simp [hp]
        clear hp
        go_enter Try.func64, Try.ntmps64
        go_wp2_with fail
        refine (l01Is_any _ _).mono ?_
        rintro e w1 ⟨rfl, hb⟩
        have hl : Below w.heap.size w w1 := Below.trans (by (repeat (first | with_reducible assumption | with_reducible exact Below.refl _ _ | with_reducible refine Below.setCell ?_ (by first | omega | (simp <;> omega)) _ | with_reducible refine Below.alloc ?_ (by first | omega | (simp <;> omega)) _ | with_reducible refine Below.drew ?_ | with_reducible refine Below.drewN ?_ _))) (hb.mono (by simp; try omega))
        have hs : Six w1 (w.heap.size + 1) g := Six.below (Blk.six (Blk.new' _ _ _ (by simp))) hb (by simp)
        have hs' : Six w1 w.heap.size f := Six.below (Blk.six ((Blk.new _ _ _).alloc _)) hb (by simp; try omega)
        clear hb
        go_wp2_with fail
        refine (l01Is_any _ _).mono ?_
        rintro e w2 ⟨rfl, hb⟩
        replace hs := hs.below hb hs.lt
        replace hs' := hs'.below hb hs'.lt
        go_wp2
        go_ret
        exact ⟨ret_int Hr.out.symm, hl.trans (hb.mono hl.size)⟩

def mulR (f g : M) : M := if like f g then mul f g else M0

theorem ImplProduct_any (f g : M) (w : World) :
    Calls Try.prog 22 #[.agg (mc f), .agg (mc g)] w fun e w' => e = .returned (.tuple #[.agg (mc (mulR f g)), I (codeLike f g)]) ∧ Below w.heap.size w w' := by
  by_cases hc : codeLike f g = 0
  · have hlk : Valid f := (like_iff.1 ((codeLike_like f g).2 hc)).1
    have hcb : (codeLike f g != 0) = false := by simp [hc]
    have Hr : Hid (mulR f g = mul f g) := by show _ = _; simp [mulR, (codeLike_like f g).2 hc]
    have Hc := Lib.hid hc
    clear hc
    go_enter Try.func22, Try.ntmps22
    go_wp2_with fail
    refine (pairCode_any f g _).mono ?_
    rintro e w1 ⟨rfl, hb⟩
    have hl : Below w.heap.size w w1 := Below.trans (by (repeat (first | with_reducible assumption | with_reducible exact Below.refl _ _ | with_reducible refine Below.setCell ?_ (by first | omega | (simp <;> omega)) _ | with_reducible refine Below.alloc ?_ (by first | omega | (simp <;> omega)) _ | with_reducible refine Below.drew ?_ | with_reducible refine Below.drewN ?_ _))) (hb.mono (by simp; try omega))
    have hs : Six w1 (w.heap.size + 1) g := Six.below (Blk.six ((Blk.new' _ _ _ (by simp)).alloc _)) hb (by simp)
    have hs' : Six w1 w.heap.size f := Six.below (Blk.six (((Blk.new _ _ _).alloc _).alloc _)) hb (by simp; try omega)
    have hB : Blk w1 (w.heap.size + 1 + 1) 26 (mc M0) := Blk.below (Blk.new' _ _ _ (by simp)) hb (by simp)
    clear hb
    go_wp2_with fail
    refine (times_any _ _ _ hlk).mono ?_
    rintro e w2 ⟨rfl, hb⟩
    replace hB := hB.below hb hB.lt
    obtain ⟨e0, e1, e2, e3, e4, e5⟩ := hB.six
    obtain ⟨z0, z1, z2, z3, z4, z5⟩ := hB.fr6
    replace hl := hl.trans (hb.mono hl.size)
    clear hb
    go_wp2
    refine bodyPost_ret (v := .tuple #[.agg (mc (mul f g)), I 0]) ?_ rfl ⟨by rw [Hr.out, Hc.out], by (repeat (first | with_reducible assumption | with_reducible exact Below.refl _ _ | with_reducible refine Below.setCell ?_ (by first | omega | (simp <;> omega)) _ | with_reducible refine Below.alloc ?_ (by first | omega | (simp <;> omega)) _ | with_reducible refine Below.drew ?_ | with_reducible refine Below.drewN ?_ _))⟩
    simp [results, Try.results22, go_sem, *]
  · have hcb : (codeLike f g != 0) = true := by simp [hc]
    have Hr : Hid (mulR f g = M0) := by
      show _ = _
      unfold mulR
      rw [if_neg]
      rw [codeLike_like]; exact hc
    clear hc
    go_enter Try.func22, Try.ntmps22
    go_wp2_with fail
    refine (pairCode_any _ _ _).mono ?_
    rintro e w1 ⟨rfl, hb⟩
    have hl : Below w.heap.size w w1 := Below.trans (by (repeat (first | with_reducible assumption | with_reducible exact Below.refl _ _ | with_reducible refine Below.setCell ?_ (by first | omega | (simp <;> omega)) _ | with_reducible refine Below.alloc ?_ (by first | omega | (simp <;> omega)) _ | with_reducible refine Below.drew ?_ | with_reducible refine Below.drewN ?_ _))) (hb.mono (by simp; try omega))
    have hB : Blk w1 (w.heap.size + 1 + 1) 26 (mc M0) := Blk.below (Blk.new' _ _ _ (by simp)) hb (by simp)
    clear hb
    obtain ⟨e0, e1, e2, e3, e4, e5⟩ := hB.six
    obtain ⟨z0, z1, z2, z3, z4, z5⟩ := hB.fr6
    go_wp2
    refine bodyPost_ret (v := .tuple #[.agg (mc M0), I (codeLike f g)]) ?_ rfl ⟨by rw [Hr.out], by (repeat (first | with_reducible assumption | with_reducible exact Below.refl _ _ | with_reducible refine Below.setCell ?_ (by first | omega | (simp <;> omega)) _ | with_reducible refine Below.alloc ?_ (by first | omega | (simp <;> omega)) _ | with_reducible refine Below.drew ?_ | with_reducible refine Below.drewN ?_ _))⟩
    simp [results, Try.results22, go_sem, *]
    exact ⟨rfl, rfl, rfl, rfl, rfl, rfl⟩

end Go.Proofs.Ytkbfocoaobiijaa
