/- The walk of the statement on LeastGenerating; the lists lie below the heap's end. -/
import Derived.Test.YtneonacdjmfaoaaM5
import Derived.Test.YtneonacdjmfaoaaOpen
namespace Go.Proofs.Ytneonacdjmfaoaa
open Go.RowKit
set_option maxRecDepth 100000
set_option linter.unusedSimpArgs false
set_option linter.unusedVariables false

theorem lawLeastGenerating (A : Option Addr) (n c : Nat) (ms : List M) (w : World) (hx : RdM w w.heap.size A ms) (hn : ms.length = n) (hmax : n ≤ maxLen) :
    Calls Try.prog 3 #[.slice A n c] w fun e w' => e = .returned (.bool true) ∧ Below w.heap.size w w' := by
  have Hn := Lib.hid hn
  have HX := Lib.hid hx
  have hmax2 : n ≤ 9223372036854775807 := by unfold maxLen at hmax; omega
  clear hn hx hmax
  by_cases hl : 1048576 < n
  · have h1 : (if (1048576 : Nat) < n then (-1 : Int) else ((1048576 - n : Nat) : Int)) = -1 := if_pos hl
    have Hsz : Hid (∀ w, Calls Try.prog 10 #[.slice A n c, .int .i64 1048576] w fun e w' => e = .returned (.int .i64 (-1)) ∧ w = w') := fun w => by have := szM_any A n c 1048576 w (by omega) hmax2; rw [h1] at this; exact this
    clear h1
    go_enter Try.func3, Try.ntmps3
    go_wp2_with fail
    refine (Hsz.out _).mono ?_
    rintro e w1 ⟨rfl, rfl⟩
    go_wp2
    go_ret
    exact ⟨rfl, (Below.refl _ _)⟩
  · have h1 : (if (1048576 : Nat) < n then (-1 : Int) else ((1048576 - n : Nat) : Int)) = ((1048576 - n : Nat) : Int) := if_neg hl
    have Hsz : Hid (∀ w, Calls Try.prog 10 #[.slice A n c, .int .i64 1048576] w fun e w' => e = .returned (.int .i64 ((1048576 - n : Nat) : Int)) ∧ w = w') := fun w => by have := szM_any A n c 1048576 w (by omega) hmax2; rw [h1] at this; exact this
    have hnn : ¬ (((1048576 - n : Nat) : Int) < 0) := by omega
    have hb : n < 1048577 := by omega
    have hcc : (monC ms [] != monC ms []) = false := by simp
    clear h1
    have hLen := lgR_len ms
    have HS := Lib.hid (LS.start (bxs := []) HX.out (Below.refl _ _) (by simp))
    go_enter Try.func3, Try.ntmps3
    go_wp2_with fail
    refine (Hsz.out _).mono ?_
    rintro e w1 ⟨rfl, rfl⟩
    clear Hsz
    go_wp2_with fail
    refine (toM_any A n c ms _ HS.out.list Hn.out (by omega)).mono ?_
    rintro e w3 ⟨v, rfl, ho, hb1⟩
    obtain ⟨A1, c2, hv, _⟩ := ho.form
    rw [Hn.out] at hv
    subst hv
    have Ho := Lib.hid ho
    have Hb1 := Lib.hid hb1
    clear ho hb1
    replace HS := Lib.hid (HS.out.below Hb1.out)
    clear Hb1
    go_wp2_with fail
    refine (SpecLG_any A1 n c2 ms _ Ho.out.rdA Hn.out (by omega)).mono ?_
    rintro e w4 ⟨A5, c6, rfl, hr, hb1⟩
    replace HS := Lib.hid ((HS.out.below hb1).setR hr)
    clear hb1 hr Ho
    go_wp2_with fail
    refine (toM_any A n c ms _ HS.out.list Hn.out (by omega)).mono ?_
    rintro e w9 ⟨v, rfl, ho, hb1⟩
    obtain ⟨A7, c8, hv, _⟩ := ho.form
    rw [Hn.out] at hv
    subst hv
    have Ho := Lib.hid ho
    have Hb1 := Lib.hid hb1
    clear ho hb1
    replace HS := Lib.hid (HS.out.setX Hb1.out Ho.out)
    clear Hb1 Ho
    go_wp2_with fail
    refine (ImplLG_any A7 n c8 ms _ HS.out.ox.rdA Hn.out (HS.out.ox.nilA) (by omega)).mono ?_
    rintro e w10 ⟨v, rfl, ho, hb1⟩
    obtain ⟨A11, c12, hv, _⟩ := ho.form
    subst hv
    replace HS := Lib.hid (HS.out.setG hb1 ho)
    clear hb1 ho
    go_wp2_with fail
    refine (eqI_self A11 A5 (lgR ms).length c12 (lgR ms).length c6 (lgR ms) _ rfl rfl (show OwI 2 _ _ _ _ from HS.out.og).rdA HS.out.res (by have := hLen; omega)).mono ?_
    rintro e w13 ⟨rfl, hb1⟩
    replace HS := Lib.hid (HS.out.below hb1)
    clear hb1
    go_wp2_with fail
    refine (toM_any A n c ms _ HS.out.list Hn.out (by omega)).mono ?_
    rintro e w16 ⟨v, rfl, ho, hb1⟩
    obtain ⟨A14, c15, hv, _⟩ := ho.form
    rw [Hn.out] at hv
    subst hv
    have Ho := Lib.hid ho
    have Hb1 := Lib.hid hb1
    clear ho hb1
    replace HS := Lib.hid (HS.out.below Hb1.out)
    clear Hb1
    go_wp2_with fail
    refine (eqM_same A7 A14 n c8 c15 ms _ Hn.out HS.out.ox.rdA Ho.out.rdA (by omega)).mono ?_
    rintro e w17 ⟨rfl, hb1⟩
    replace HS := Lib.hid (HS.out.below hb1)
    clear hb1 Ho
    go_wp2_with fail
    refine (markM_any (.slice A7 n c8) _ ms 1 _ HS.out.ox (by omega) (by have := Hn.out; omega)).mono ?_
    rintro e w18 ⟨rfl, ho, hg⟩
    rw [Hn.out]
    replace HS := Lib.hid (HS.out.markX ho hg)
    clear ho hg
    have hk1 : ¬ ((1 : Int) + 6 * (n : Int) < 0) := by omega
    go_wp2_with fail
    refine (eqI_self A11 A5 (lgR ms).length c12 (lgR ms).length c6 (lgR ms) _ rfl rfl (show OwI 2 _ _ _ _ from HS.out.og).rdA HS.out.res (by have := hLen; omega)).mono ?_
    rintro e w19 ⟨rfl, hb1⟩
    replace HS := Lib.hid (HS.out.below hb1)
    clear hb1
    clear hk1
    go_wp2_with fail
    refine (markI_any (.slice A11 (lgR ms).length c12) _ (lgR ms) 1 _ HS.out.og (by omega) (by have := hLen; omega)).mono ?_
    rintro e w20 ⟨rfl, ho, hg⟩
    have hml := marks_length (lgR ms).length 1
    unfold OwI at ho
    rw [hml] at ho
    replace HS := Lib.hid (HS.out.markG ho hg)
    clear ho hg
    have hm1 : ¬ ((1 : Int) + ((lgR ms).length : Int) < 0) := by omega
    have Hml := Lib.hid hml
    clear hml
    go_wp2_with fail
    have hml := Hml.out
    refine (heldI_any A11 (lgR ms).length c12 1 _ ((show OwI 2 _ _ (.slice A11 (lgR ms).length c12) (marks (lgR ms).length 1) from (by unfold OwI; rw [hml]; exact HS.out.og))).rdA (by omega) (by have := hLen; omega)).mono ?_
    rintro e w21 ⟨rfl, rfl⟩
    clear hml
    go_wp2_with fail
    refine (toM_any A n c ms _ HS.out.list Hn.out (by omega)).mono ?_
    rintro e w24 ⟨v, rfl, ho, hb1⟩
    obtain ⟨A22, c23, hv, _⟩ := ho.form
    rw [Hn.out] at hv
    subst hv
    have Ho := Lib.hid ho
    have Hb1 := Lib.hid hb1
    clear ho hb1
    replace HS := Lib.hid (HS.out.below Hb1.out)
    clear Hb1
    go_wp2_with fail
    refine (ImplLG_any A22 n c23 ms _ Ho.out.rdA Hn.out (Ho.out.nilA) (by omega)).mono ?_
    rintro e w25 ⟨v, rfl, ho, hb1⟩
    obtain ⟨A26, c27, hv, hr⟩ := ho.form
    subst hv
    replace HS := Lib.hid (HS.out.below hb1)
    have Hr := Lib.hid hr
    clear hb1 ho Ho hr
    go_wp2_with fail
    refine (eqI_self A26 A5 (lgR ms).length c27 (lgR ms).length c6 (lgR ms) _ rfl rfl Hr.out HS.out.res (by have := hLen; omega)).mono ?_
    rintro e w28 ⟨rfl, hb1⟩
    replace HS := Lib.hid (HS.out.below hb1)
    clear hb1
    clear Hr
    have hml := Hml.out
    have Hml := Lib.hid hml
    clear hml
    go_wp2_with fail
    have hml := Hml.out
    refine (heldI_any A11 (lgR ms).length c12 1 _ ((show OwI 2 _ _ (.slice A11 (lgR ms).length c12) (marks (lgR ms).length 1) from (by unfold OwI; rw [hml]; exact HS.out.og))).rdA (by omega) (by have := hLen; omega)).mono ?_
    rintro e w29 ⟨rfl, rfl⟩
    clear hml
    go_wp2
    go_ret
    exact ⟨rfl, HS.out.bel⟩
end Go.Proofs.Ytneonacdjmfaoaa
