/- The walk of the statement on DepthOf; the lists lie below the heap's end. -/
import Derived.Test.YtneonacdjmfaoaaJE
import Derived.Test.YtneonacdjmfaoaaOpen
namespace Go.Proofs.Ytneonacdjmfaoaa
open Go.RowKit
set_option maxRecDepth 100000
set_option linter.unusedSimpArgs false
set_option linter.unusedVariables false

theorem lawDepthOf (A : Option Addr) (n c : Nat) (ms : List M) (w : World) (hx : RdM w w.heap.size A ms) (hn : ms.length = n) (hmax : n ≤ maxLen) :
    Calls Try.prog 5 #[.slice A n c] w fun e w' => e = .returned (.bool true) ∧ Below w.heap.size w w' := by
  have Hn := Lib.hid hn
  have HX := Lib.hid hx
  have hmax2 : n ≤ 9223372036854775807 := by unfold maxLen at hmax; omega
  clear hn hx hmax
  by_cases hl : 1048576 < n
  · have h1 : (if (1048576 : Nat) < n then (-1 : Int) else ((1048576 - n : Nat) : Int)) = -1 := if_pos hl
    have Hsz : Hid (∀ w, Calls Try.prog 10 #[.slice A n c, .int .i64 1048576] w fun e w' => e = .returned (.int .i64 (-1)) ∧ w = w') := fun w => by have := szM_any A n c 1048576 w (by omega) hmax2; rw [h1] at this; exact this
    clear h1
    go_enter Try.func5, Try.ntmps5
    go_wp2_with fail
    refine (Hsz.out _).mono ?_
    rintro e w1 ⟨rfl, rfl⟩
    go_wp2
    go_ret
    exact ⟨rfl, (Below.refl _ _)⟩
  · have h1 : (if (1048576 : Nat) < n then (-1 : Int) else ((1048576 - n : Nat) : Int)) = ((1048576 - n : Nat) : Int) := if_neg hl
    have Hsz : Hid (∀ w, Calls Try.prog 10 #[.slice A n c, .int .i64 1048576] w fun e w' => e = .returned (.int .i64 ((1048576 - n : Nat) : Int)) ∧ w = w') := fun w => by have := szM_any A n c 1048576 w (by omega) hmax2; rw [h1] at this; exact this
    have hnn : ¬ (((1048576 - n : Nat) : Int) < 0) := by omega
    have hb : n < 1048577 := by omega
    have hcc : ((monC ms []) != (monC ms [])) = false := by simp
    clear h1
    have HS := Lib.hid (LS.start (bxs := []) HX.out (Below.refl _ _) (by simp))
    go_enter Try.func5, Try.ntmps5
    go_wp2_with fail
    refine (Hsz.out _).mono ?_
    rintro e w1 ⟨rfl, rfl⟩
    clear Hsz
    go_wp2_with fail
    refine (toM_any A n c ms _ HS.out.list Hn.out (by omega)).mono ?_
    rintro e w3 ⟨v, rfl, ho, hb1⟩
    obtain ⟨A1, c2, hv, _⟩ := ho.form
    rw [Hn.out] at hv
    subst hv
    have Ho := Lib.hid ho
    have Hb1 := Lib.hid hb1
    clear ho hb1
    replace HS := Lib.hid (HS.out.below Hb1.out)
    clear Hb1
    go_wp2_with fail
    refine (SpecDP_any A1 n c2 ms _ Ho.out.rdA Hn.out (by omega)).mono ?_
    rintro e w4 ⟨rfl, hb1⟩
    replace HS := Lib.hid (HS.out.below hb1)
    clear hb1 Ho
    go_wp2_with fail
    refine (toM_any A n c ms _ HS.out.list Hn.out (by omega)).mono ?_
    rintro e w7 ⟨v, rfl, ho, hb1⟩
    obtain ⟨A5, c6, hv, _⟩ := ho.form
    rw [Hn.out] at hv
    subst hv
    have Ho := Lib.hid ho
    have Hb1 := Lib.hid hb1
    clear ho hb1
    replace HS := Lib.hid (HS.out.setX Hb1.out Ho.out)
    clear Hb1 Ho
    go_wp2_with fail
    refine (ImplDP_any A5 n c6 ms _ HS.out.ox.rdA Hn.out (HS.out.ox.nilA) (by omega)).mono ?_
    rintro e w8 ⟨rfl, hb1⟩
    replace HS := Lib.hid (HS.out.below hb1)
    clear hb1
    go_wp2_with fail
    refine (toM_any A n c ms _ HS.out.list Hn.out (by omega)).mono ?_
    rintro e w11 ⟨v, rfl, ho, hb1⟩
    obtain ⟨A9, c10, hv, _⟩ := ho.form
    rw [Hn.out] at hv
    subst hv
    have Ho := Lib.hid ho
    have Hb1 := Lib.hid hb1
    clear ho hb1
    replace HS := Lib.hid (HS.out.below Hb1.out)
    clear Hb1
    go_wp2_with fail
    refine (eqM_same A5 A9 n c6 c10 ms _ Hn.out HS.out.ox.rdA Ho.out.rdA (by omega)).mono ?_
    rintro e w12 ⟨rfl, hb1⟩
    replace HS := Lib.hid (HS.out.below hb1)
    clear hb1 Ho
    go_wp2
    go_ret
    exact ⟨rfl, HS.out.bel⟩
end Go.Proofs.Ytneonacdjmfaoaa
