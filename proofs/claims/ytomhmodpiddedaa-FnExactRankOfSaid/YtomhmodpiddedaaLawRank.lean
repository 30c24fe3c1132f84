/- The walk of the statement on RankOf; no conditions. -/
import Derived.Test.YtomhmodpiddedaaE4
import Derived.Test.YtomhmodpiddedaaS1
namespace Go.Proofs.Ytomhmodpiddedaa
open Go.RowKit
set_option maxRecDepth 100000

theorem lawRank (f : M) (w : World) :
    Calls Try.prog 8 #[.agg (mc f)] w fun e w' => e = .returned (.bool true) ∧ Below w.heap.size w w' := by
  have h2 : (rkR f != rkR f) = false := by simp
  have h3 : (cInv (isMap f) != cInv (isMap f)) = false := by simp
  go_enter Try.func8, Try.ntmps8
  go_wp2_with fail
  refine (toMap_any _ _).mono ?_
  rintro e w1 ⟨rfl, hb⟩
  have hl : Below w.heap.size w w1 := Below.trans (by (repeat (first | with_reducible assumption | with_reducible exact Below.refl _ _ | with_reducible refine Below.setCell ?_ (by first | omega | (simp <;> omega)) _ | with_reducible refine Below.alloc ?_ (by first | omega | (simp <;> omega)) _ | with_reducible refine Below.drew ?_ | with_reducible refine Below.drewN ?_ _))) (hb.mono (by simp))
  have hs : Six w1 w.heap.size f := Six.below (Blk.six (Blk.new w _ _)) hb (by simp)
  clear hb
  go_wp2_with fail
  refine (SpecRank_any f _).mono ?_
  rintro e w2 ⟨rfl, hb⟩
  replace hs := hs.below hb hs.lt
  replace hl := hl.trans (hb.mono hl.size)
  clear hb
  go_wp2_with fail
  refine (toMap_any _ _).mono ?_
  rintro e w3 ⟨rfl, hb⟩
  replace hl := hl.trans (hb.mono hl.size)
  clear hb hs
  go_wp2_with fail
  refine (ImplRank_any f _).mono ?_
  rintro e w4 ⟨rfl, hb⟩
  replace hl := hl.trans (hb.mono hl.size)
  clear hb
  go_wp2
  go_ret
  exact ⟨rfl, hl⟩

end Go.Proofs.Ytomhmodpiddedaa
