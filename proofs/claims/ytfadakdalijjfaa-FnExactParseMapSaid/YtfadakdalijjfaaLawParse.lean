/- The walk of the statement on ParseMap; no conditions. -/
import Derived.Test.YtfadakdalijjfaaC8
import Derived.Test.YtfadakdalijjfaaS1
import Derived.Test.YtfadakdalijjfaaReg
namespace Go.Proofs.Ytfadakdalijjfaa
open Go.RowKit
set_option maxRecDepth 100000

theorem lawParse (s : ByteArray) (w : World) :
    Calls Try.prog 6 #[.string s] w fun e w' => e = .returned (.bool true) ∧ Below w.heap.size w w' := by
  by_cases hs : 1048576 < s.size
  · go_enter Try.func6, Try.ntmps6
    go_wp2
    go_ret
    exact ⟨rfl, Below.refl _ _⟩
  · have hb : s.size < 1073741824 := by omega
    go_enter Try.func6, Try.ntmps6
    go_wp2_with fail
    refine (SpecParseMap_any s _ hb).mono ?_
    rintro e w1 ⟨rfl, hb1⟩
    have hl := hb1.size
    go_wp2_with fail
    refine (ImplParseMap_any s _ hb).mono ?_
    rintro e w2 ⟨rfl, hb2⟩
    have s1 : Six w2 w1.heap.size (readR s) := Six.below (Blk.six (Blk.new _ _ _)) hb2 (by simp)
    have hl2 := s1.lt
    have hbel : Below w.heap.size w w2 := hb1.trans (Below.trans (by (repeat (first | with_reducible assumption | with_reducible exact Below.refl _ _ | with_reducible refine Below.setCell ?_ (by first | omega | (simp <;> omega)) _ | with_reducible refine Below.alloc ?_ (by first | omega | (simp <;> omega)) _ | with_reducible refine Below.drew ?_ | with_reducible refine Below.drewN ?_ _))) (hb2.mono (by simp; omega)))
    clear hb1 hb2
    go_wp2_with fail
    refine (eqMap_self (readR s) _).mono ?_
    rintro e w3 ⟨rfl, hb3⟩
    replace hbel : Below w.heap.size w w3 := Below.trans (by (repeat (first | with_reducible assumption | with_reducible exact Below.refl _ _ | with_reducible refine Below.setCell ?_ (by first | omega | (simp <;> omega)) _ | with_reducible refine Below.alloc ?_ (by first | omega | (simp <;> omega)) _ | with_reducible refine Below.drew ?_ | with_reducible refine Below.drewN ?_ _))) (hb3.mono (by simp; omega))
    go_wp2
    go_ret
    exact ⟨rfl, hbel⟩
end Go.Proofs.Ytfadakdalijjfaa
