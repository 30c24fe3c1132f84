/- The walk of the statement on InverseOf; no conditions. -/
import Derived.Test.YtomhmodpiddedaaE4
import Derived.Test.YtomhmodpiddedaaS1
namespace Go.Proofs.Ytomhmodpiddedaa
open Go.RowKit
set_option maxRecDepth 100000

theorem lawInverse (f : M) (w : World) :
    Calls Try.prog 9 #[.agg (mc f)] w fun e w' => e = .returned (.bool true) ∧ Below w.heap.size w w' := by
  go_enter Try.func9, Try.ntmps9
  go_wp2_with fail
  refine (toMap_any _ _).mono ?_
  rintro e w1 ⟨rfl, hb⟩
  have hl : Below w.heap.size w w1 := Below.trans (by (repeat (first | with_reducible assumption | with_reducible exact Below.refl _ _ | with_reducible refine Below.setCell ?_ (by first | omega | (simp <;> omega)) _ | with_reducible refine Below.alloc ?_ (by first | omega | (simp <;> omega)) _ | with_reducible refine Below.drew ?_ | with_reducible refine Below.drewN ?_ _))) (hb.mono (by simp))
  have hs : Six w1 w.heap.size f := Six.below (Blk.six (Blk.new w _ _)) hb (by simp)
  clear hb
  go_wp2_with fail
  refine (SpecInverse_any f _).mono ?_
  rintro e w2 ⟨rfl, hb⟩
  replace hs := hs.below hb hs.lt
  replace hl := hl.trans (hb.mono hl.size)
  have l2 := hs.lt
  have l2' := hl.size
  clear hb
  go_wp2_with fail
  refine (toMap_any _ _).mono ?_
  rintro e w3 ⟨rfl, hb⟩
  have h3 := hb.size
  have s1 : Six w3 w2.heap.size (ivR f) := Six.below (Blk.six (Blk.new _ _ _)) hb (by simp)
  replace hl := (hl.alloc l2' _).trans (hb.mono (by simp; omega))
  have l3 := s1.lt
  have l3' := hl.size
  clear hb hs l2 h3
  go_wp2_with fail
  refine (ImplInverse_any f _).mono ?_
  rintro e w4 ⟨rfl, hb⟩
  replace s1 := s1.below hb s1.lt
  replace hl := hl.trans (hb.mono hl.size)
  have l4 := s1.lt
  have l4' := hl.size
  clear hb l3
  go_wp2_with fail
  refine (eqMap_self (ivR f) _).mono ?_
  rintro e w5 ⟨rfl, hb⟩
  replace hl : Below w.heap.size w w5 := (hl.alloc l4' _).trans (hb.mono (by simp; omega))
  go_wp2
  go_ret
  exact ⟨rfl, hl⟩

end Go.Proofs.Ytomhmodpiddedaa
