/- The walk of the statement on CyclicPoints; no conditions. -/
import Derived.Test.YtnibmidkhnienaaD4
import Derived.Test.YtnibmidkhnienaaS1
namespace Go.Proofs.Ytnibmidkhnienaa
open Go.RowKit
set_option maxRecDepth 100000

theorem lawCyclic (f : M) (w : World) :
    Calls Try.prog 5 #[.agg (mc f)] w fun e w' => e = .returned (.bool true) ∧ Below w.heap.size w w' := by
  have hlen := cycR_len f
  have HX : ∃ xs, xs = cycR f := ⟨_, rfl⟩
  obtain ⟨xs, hX⟩ := HX
  rw [← hX] at hlen
  have HX := Lib.hid hX
  clear hX
  go_enter Try.func5, Try.ntmps5
  go_wp2_with fail
  refine (toMap_any _ _).mono ?_
  rintro e w1 ⟨rfl, hb⟩
  have hl : Below w.heap.size w w1 := Below.trans (by (repeat (first | with_reducible assumption | with_reducible exact Below.refl _ _ | with_reducible refine Below.setCell ?_ (by first | omega | (simp <;> omega)) _ | with_reducible refine Below.alloc ?_ (by first | omega | (simp <;> omega)) _ | with_reducible refine Below.drew ?_ | with_reducible refine Below.drewN ?_ _))) (hb.mono (by simp))
  have hs : Six w1 w.heap.size f := Six.below (Blk.six (Blk.new w _ _)) hb (by simp)
  have z1 : w.heap.size < w1.heap.size := hs.lt
  clear hb
  go_wp2_with fail
  refine (SpecCyclic_any _ _).mono ?_
  rintro e w2 ⟨v0, rfl, ho0, hb⟩
  rw [← HX.out] at ho0
  obtain ⟨A0, c0, rfl, hr0⟩ := ho0.form
  replace hs := hs.below hb hs.lt
  replace hl := hl.trans (hb.mono hl.size)
  have z2 := hb.size
  clear hb ho0
  go_wp2_with fail
  refine (toMap_any _ _).mono ?_
  rintro e w3 ⟨rfl, hb⟩
  replace hs := hs.below hb hs.lt
  replace hl := hl.trans (hb.mono hl.size)
  replace hr0 := hr0.below hb
  have z3 := hb.size
  clear hb
  go_wp2_with fail
  refine (ImplCyclic_any _ _).mono ?_
  rintro e w4 ⟨v1, rfl, ho1, hb⟩
  rw [← HX.out] at ho1
  replace hs := hs.below hb hs.lt
  replace hl := hl.trans (hb.mono hl.size)
  replace hr0 := hr0.below' hb z3
  have z4 := hb.size
  clear hb
  obtain ⟨A1, c1, rfl, hr1⟩ := ho1.form
  go_wp2_with fail
  refine (eqI_any A1 A0 _ c1 _ c0 xs xs _ rfl rfl hr1 (hr0.more (by omega)) hlen).mono ?_
  rintro e w5 ⟨rfl, hb⟩
  rw [decide_eq_true rfl]
  replace hs := hs.below hb hs.lt
  replace hl := hl.trans (hb.mono hl.size)
  replace hr0 := hr0.below' hb (by omega)
  replace ho1 := ho1.below hb (Nat.le_refl _)
  have z5 := hb.size
  clear hb hr1
  go_wp2_with fail
  refine (markI_any _ _ xs 1 _ ho1 (by omega) (by omega)).mono ?_
  rintro e w6 ⟨rfl, ho1', hg⟩
  replace hs := hs.grown hg (ho1.ne (by omega))
  replace hl := ho1.bel hl hg (by omega) (by omega)
  replace hr0 := hr0.grown hg (by omega) (fun k hk => by have := ho1.lt k hk; omega)
  have z6 := hg.size
  clear hg ho1
  obtain ⟨_, _, he, hr1⟩ := ho1'.form
  injection he with he1 he2 he3
  subst he1 he3
  clear he2
  go_wp2_with fail
  refine (heldI_any A1 xs.length c1 1 _ hr1 (by omega) (by omega)).mono ?_
  rintro e w7 ⟨rfl, rfl⟩
  go_wp2_with fail
  refine (toMap_any _ _).mono ?_
  rintro e w8 ⟨rfl, hb⟩
  replace hl := hl.trans (hb.mono hl.size)
  replace hr0 := hr0.below' hb (by omega)
  replace ho1' := ho1'.below hb (Nat.le_refl _)
  have z8 := hb.size
  clear hb hr1 hs
  go_wp2_with fail
  refine (ImplCyclic_any _ _).mono ?_
  rintro e w9 ⟨v2, rfl, ho2, hb⟩
  rw [← HX.out] at ho2
  replace hl := hl.trans (hb.mono hl.size)
  replace hr0 := hr0.below' hb (by omega)
  replace ho1' := ho1'.below hb (Nat.le_refl _)
  have z9 := hb.size
  clear hb
  obtain ⟨A2, c2, rfl, hr2⟩ := ho2.form
  go_wp2_with fail
  refine (eqI_any A2 A0 _ c2 _ c0 xs xs _ rfl rfl hr2 (hr0.more (by omega)) hlen).mono ?_
  rintro e w10 ⟨rfl, hb⟩
  rw [decide_eq_true rfl]
  replace hl := hl.trans (hb.mono hl.size)
  replace ho1' := ho1'.below hb (Nat.le_refl _)
  clear hb hr2 hr0
  obtain ⟨_, _, he, hr1⟩ := ho1'.form
  injection he with he1 he2 he3
  subst he1 he3
  clear he2
  go_wp2_with fail
  refine (heldI_any A1 xs.length c1 1 _ hr1 (by omega) (by omega)).mono ?_
  rintro e w11 ⟨rfl, rfl⟩
  go_wp2
  go_ret
  exact ⟨rfl, hl⟩

end Go.Proofs.Ytnibmidkhnienaa
