/- The walk of the statement on MapOf; the list lies below the heap's end. -/
import Derived.Test.YtfadakdalijjfaaC7
import Derived.Test.YtfadakdalijjfaaS1
import Derived.Test.YtfadakdalijjfaaReg
namespace Go.Proofs.Ytfadakdalijjfaa
open Go.RowKit
set_option maxRecDepth 100000

theorem lawMapOf (A : Option Addr) (n c : Nat) (zs : List Int) (w : World) (hx : RdI w w.heap.size A zs) (hn : zs.length = n) :
    Calls Try.prog 7 #[.slice A n c] w fun e w' => e = .returned (.bool true) ∧ Below w.heap.size w w' := by
  have Hn := Lib.hid hn
  have Hx := Lib.hid hx
  clear hn hx
  by_cases hs : 1048576 < n
  · go_enter Try.func7, Try.ntmps7
    go_wp2
    go_ret
    exact ⟨rfl, Below.refl _ _⟩
  · have hb : n < 1073741824 := by omega
    go_enter Try.func7, Try.ntmps7
    go_wp2_with fail
    refine (toI_any A n c zs _ Hx.out Hn.out hb).mono ?_
    rintro e w1 ⟨v0, rfl, ho0, hb1⟩
    obtain ⟨A0, c0, hv0, hr0⟩ := ho0.form
    rw [Hn.out] at hv0
    subst hv0
    have Hbel := Lib.hid hb1
    clear hb1 ho0
    go_wp2_with fail
    refine (SpecMapOf_any A0 n c0 zs _ hr0 Hn.out hb).mono ?_
    rintro e w2 ⟨rfl, hb2⟩
    replace Hbel := Lib.hid (Hbel.out.trans (hb2.mono Hbel.out.size))
    clear hb2 hr0
    have Hrr := Lib.hid (Hx.out.below Hbel.out)
    have h2 := Hbel.out.size
    go_wp2_with fail
    refine (toI_any A n c zs _ ((Rd.alloc Hrr.out h2 _).more (by simp; omega)) Hn.out hb).mono ?_
    rintro e w3 ⟨v1, rfl, ho1, hb3⟩
    obtain ⟨A1, c1, hv1, hr1⟩ := ho1.form
    rw [Hn.out] at hv1
    subst hv1
    have s1 : Six w3 w2.heap.size (mapOfR zs) := Six.below (Blk.six (Blk.new _ _ _)) hb3 (by simp)
    have hl2 := s1.lt
    replace Hbel : Hid (Below w.heap.size w w3) := Hbel.out.trans (Below.trans (by (repeat (first | with_reducible assumption | with_reducible exact Below.refl _ _ | with_reducible refine Below.setCell ?_ (by first | omega | (simp <;> omega)) _ | with_reducible refine Below.alloc ?_ (by first | omega | (simp <;> omega)) _ | with_reducible refine Below.drew ?_ | with_reducible refine Below.drewN ?_ _))) (hb3.mono (by simp; omega)))
    clear hb3 Hrr
    have h3 := Hbel.out.size
    go_wp2_with fail
    refine (ImplMapOf_any A1 n c1 zs _ hr1 Hn.out hb).mono ?_
    rintro e w4 ⟨rfl, hb4⟩
    replace s1 := s1.below hb4 s1.lt
    replace hr1 := hr1.below hb4
    replace Hbel := Lib.hid (Hbel.out.trans (hb4.mono Hbel.out.size))
    have h4 := hb4.size
    have h4' := Hbel.out.size
    have hl4 := s1.lt
    clear hb4 ho1
    have Hr1 := Lib.hid hr1
    clear hr1
    go_wp2_with fail
    refine (eqMap_self (mapOfR zs) _).mono ?_
    rintro e w5 ⟨rfl, hb5⟩
    have h5 := hb5.size
    have Hr2 : Hid (RdI w5 w3.heap.size A1 zs) := (Rd.alloc Hr1.out h4 _).below' hb5 (by simp; omega)
    replace Hbel : Hid (Below w.heap.size w w5) := Hbel.out.trans (Below.trans (by (repeat (first | with_reducible assumption | with_reducible exact Below.refl _ _ | with_reducible refine Below.setCell ?_ (by first | omega | (simp <;> omega)) _ | with_reducible refine Below.alloc ?_ (by first | omega | (simp <;> omega)) _ | with_reducible refine Below.drew ?_ | with_reducible refine Below.drewN ?_ _))) (hb5.mono (by simp; omega)))
    clear hb5 Hr1 s1 hl4
    have Hrr := Lib.hid (Hx.out.below Hbel.out)
    have h5' := Hbel.out.size
    go_wp2_with fail
    refine (toI_any A n c zs _ (Hrr.out.more (by omega)) Hn.out hb).mono ?_
    rintro e w6 ⟨v2, rfl, ho2, hb6⟩
    obtain ⟨A2, c2, hv2, hr2⟩ := ho2.form
    rw [Hn.out] at hv2
    subst hv2
    have h6 := hb6.size
    have Hr3 : Hid (RdI w6 w3.heap.size A1 zs) := Hr2.out.below' hb6 (by simp at h5; omega)
    replace Hbel := Lib.hid (Hbel.out.trans (hb6.mono Hbel.out.size))
    clear hb6 ho2 Hr2
    have h6' := Hbel.out.size
    go_wp2_with fail
    refine (eqI_self A1 A2 n c1 n c2 zs _ Hn.out Hn.out (Hr3.out.more (by simp at h5; omega)) hr2 hb).mono ?_
    rintro e w7 ⟨rfl, hb7⟩
    replace Hbel := Lib.hid (Hbel.out.trans (hb7.mono Hbel.out.size))
    clear hb7 hr2 Hr3
    go_wp2
    go_ret
    exact ⟨rfl, Hbel.out⟩
end Go.Proofs.Ytfadakdalijjfaa
