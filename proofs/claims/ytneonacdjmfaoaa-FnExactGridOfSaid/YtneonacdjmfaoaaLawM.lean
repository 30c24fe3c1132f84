/- The walk of the statement on GridOf; the lists lie below the heap's end. -/
import Derived.Test.YtneonacdjmfaoaaJC
import Derived.Test.YtneonacdjmfaoaaOpen
namespace Go.Proofs.Ytneonacdjmfaoaa
open Go.RowKit
set_option maxRecDepth 100000
set_option linter.unusedSimpArgs false
set_option linter.unusedVariables false

theorem lawGridOf (A : Option Addr) (n c : Nat) (ms : List M) (f : M) (w : World) (hx : RdM w w.heap.size A ms) (hn : ms.length = n) (hmax : n ≤ maxLen) :
    Calls Try.prog 9 #[.slice A n c, .agg (mc f)] w fun e w' => e = .returned (.bool true) ∧ Below w.heap.size w w' := by
  have Hn := Lib.hid hn
  have HX := Lib.hid hx
  have hmax2 : n ≤ 9223372036854775807 := by unfold maxLen at hmax; omega
  clear hn hx hmax
  by_cases hl : 1048576 < n
  · have h1 : (if (1048576 : Nat) < n then (-1 : Int) else ((1048576 - n : Nat) : Int)) = -1 := if_pos hl
    have Hsz : Hid (∀ w, Calls Try.prog 10 #[.slice A n c, .int .i64 1048576] w fun e w' => e = .returned (.int .i64 (-1)) ∧ w = w') := fun w => by have := szM_any A n c 1048576 w (by omega) hmax2; rw [h1] at this; exact this
    clear h1
    go_enter Try.func9, Try.ntmps9
    go_wp2_with fail
    refine (Hsz.out _).mono ?_
    rintro e w1 ⟨rfl, rfl⟩
    go_wp2
    go_ret
    exact ⟨rfl, ((Below.refl _ _).alloc (Nat.le_refl _) _)⟩
  · have h1 : (if (1048576 : Nat) < n then (-1 : Int) else ((1048576 - n : Nat) : Int)) = ((1048576 - n : Nat) : Int) := if_neg hl
    have Hsz : Hid (∀ w, Calls Try.prog 10 #[.slice A n c, .int .i64 1048576] w fun e w' => e = .returned (.int .i64 ((1048576 - n : Nat) : Int)) ∧ w = w') := fun w => by have := szM_any A n c 1048576 w (by omega) hmax2; rw [h1] at this; exact this
    have hnn : ¬ (((1048576 - n : Nat) : Int) < 0) := by omega
    have hb : n < 1048577 := by omega
    have hcc : (monC ms [f] != monC ms [f]) = false := by simp
    clear h1
    have hLen := grR_len ms f
    obtain ⟨wb, hwb⟩ : ∃ wb, wb = (w.alloc (.cells (mc f) 36)) := ⟨_, rfl⟩
    have HS : Hid (LS w A ms [(w.heap.size, f)] 6 wb.heap.size none 0 [] wb.heap.size (.slice none 0 0) [] wb.heap.size 39 6 (.slice none 0 0) 0 [] wb) := by
      refine LS.start HX.out (by rw [hwb]; exact ((Below.refl _ _).alloc (Nat.le_refl _) _)) ?_
      intro p hp
      simp only [List.mem_cons, List.not_mem_nil, or_false] at hp
      subst hp
      exact ⟨by rw [hwb]; exact Blk.six (Blk.new w _ _), Nat.le_refl _⟩
    have Hwb := Lib.hid hwb
    clear hwb
    go_enter Try.func9, Try.ntmps9
    go_wp2_with fail
    refine (Hsz.out _).mono ?_
    rintro e w1 ⟨rfl, rfl⟩
    clear Hsz
    go_wp2_with fail
    rw [← Hwb.out]
    clear Hwb
    refine wp_region_flags [] rfl (by kernel_rfl) (by kernel_rfl) [] (by kernel_rfl) _
      (fun c' : GC => [.slice A n c, c'.v, .agg (mc f), .agg (mc f), .tuple #[c'.r, I (monC ms [f])], .tuple #[c'.r, I (monC ms [f])], c'.r, I (monC ms [f]), c'.r, I (monC ms [f])])
      (by intro c'; simp only [putAll, List.setIfInBounds_toArray, List.set_cons_succ, List.set_cons_zero]; rfl)
      [] rfl _
      (by intro c'; simp only [setAll]; rfl) (by kernel_rfl)
      (fun d c' w' => SC wb ms (RR1 (grR ms f)) (d 1) (d 4) c' w')
      ⟨undef, undef⟩ (SC.start (Below.refl _ _).drew) ?hop ?hQ
    case hop =>
      refine ⟨?_, ?_, ?_, ?_, ?_, ?_, ?_, ?_, ?_, ?_, trivial⟩
      · refine ⟨rfl, Flag.pure (fun _ _ _ h => h) fun d c' w' hd hdeps hcl hS => ?_⟩
        clear hS hdeps hcl hd
        unfold Oper.wp
        go_simp
        exact ⟨rfl, fun t ht => by injection ht with ht; subst ht; rfl, rfl⟩
      · refine ⟨rfl, fun d c' w' hd hdeps hcl hS => ?_⟩
        have dC := hcl.down (k := 4) (j := 1) rfl (by kernel_rfl) hd
        have hS : SC wb ms (RR1 (grR ms f)) (d 1) (d 4) c' w' := hS
        rw [hd, dC] at hS
        have hS2 := Lib.hid hS
        clear hS hdeps hcl
        unfold Oper.wp
        go_simp
        refine (toM_any A n c ms _ (Rd.more (Rd.below HS.out.list hS2.out.bel) hS2.out.bel.size) Hn.out (by omega)).mono ?_
        rintro e w2 ⟨v', rfl, ho, hb1⟩
        refine FlagPost.own ({ c' with v := v' } : GC) 23 v' rfl rfl rfl ?_ rfl
        show SC _ _ _ true (d 4) _ _
        rw [dC]
        exact hS2.out.doA ho hb1
      · refine ⟨rfl, Flag.pure (fun _ _ _ h => h) fun d c' w' hd hdeps hcl hS => ?_⟩
        have hS : SC wb ms (RR1 (grR ms f)) (d 1) (d 4) c' w' := hS
        have s0 := (HS.out.box (w.heap.size, f) (by simp)).1.below hS.bel (HS.out.box (w.heap.size, f) (by simp)).1.lt
        simp only at s0
        clear hS hdeps hcl hd
        unfold Oper.wp
        go_simp
        exact ⟨rfl, fun t ht => by injection ht with ht; subst ht; rfl, rfl⟩
      · refine ⟨rfl, fun d c' w' hd hdeps hcl hS => ?_⟩
        have hS2 := Lib.hid (show SC wb ms (RR1 (grR ms f)) (d 1) (d 4) c' w' from hS)
        clear hS hdeps hcl
        unfold Oper.wp
        go_simp
        refine (toMap_any f _).mono ?_
        rintro e w2 ⟨rfl, hb1⟩
        refine FlagPost.own c' 25 (.agg (mc f)) rfl rfl rfl ?_ rfl
        exact SC.below RR1.below hS2.out hb1
      · refine ⟨rfl, fun d c' w' hd hdeps hcl hS => ?_⟩
        have dA := hdeps 1 (by kernel_rfl)
        have hS : SC wb ms (RR1 (grR ms f)) (d 1) (d 4) c' w' := hS
        rw [dA, hd] at hS
        obtain ⟨v, r⟩ := c'
        have ha := hS.a rfl rfl
        simp only at ha
        obtain ⟨Av, cv, hv, hr⟩ := ha.form
        rw [Hn.out] at hv
        subst hv
        have hS2 := Lib.hid hS
        have Hr := Lib.hid hr
        have Ha := Lib.hid ha
        clear hS hr ha hdeps
        unfold Oper.wp
        go_simp
        refine (SpecGR_any Av n cv ms f _ Hr.out Hn.out (by omega)).mono ?_
        rintro e w2 hp
        obtain ⟨r', rfl, hr', hb1⟩ := RetSI.out hp
        refine FlagPost.chain (⟨.slice Av n cv, r'⟩ : GC) [(26, .tuple #[r', I (monC ms [f])]), (21, .tuple #[r', I (monC ms [f])]), (27, r'), (6, r')] 26 rfl rfl rfl ?_ rfl rfl hcl hd (by kernel_rfl) (by kernel_rfl)
        show SC _ _ _ (d 1) true _ _
        rw [dA]
        exact hS2.out.doC hr' hb1
      · refine ⟨rfl, Flag.pure (fun _ _ _ h => h) fun d c' w' hd hdeps hcl hS => ?_⟩
        clear hS hdeps hcl hd
        unfold Oper.wp
        go_simp
        exact ⟨rfl, fun t ht => by injection ht with ht; subst ht; rfl, rfl⟩
      · refine ⟨rfl, Flag.pure (fun _ _ _ h => h) fun d c' w' hd hdeps hcl hS => ?_⟩
        clear hS hdeps hcl hd
        unfold Oper.wp
        go_simp
        exact ⟨rfl, fun t ht => by injection ht with ht; subst ht; rfl, rfl⟩
      · refine ⟨rfl, Flag.pure (fun _ _ _ h => h) fun d c' w' hd hdeps hcl hS => ?_⟩
        clear hS hdeps hcl hd
        unfold Oper.wp
        go_simp
        exact ⟨rfl, fun t ht => by injection ht with ht; subst ht; rfl, rfl⟩
      · refine ⟨rfl, Flag.pure (fun _ _ _ h => h) fun d c' w' hd hdeps hcl hS => ?_⟩
        clear hS hdeps hcl hd
        unfold Oper.wp
        go_simp
        exact ⟨rfl, fun t ht => by injection ht with ht; subst ht; rfl, rfl⟩
      · refine ⟨rfl, Flag.pure (fun _ _ _ h => h) fun d c' w' hd hdeps hcl hS => ?_⟩
        clear hS hdeps hcl hd
        unfold Oper.wp
        go_simp
        exact ⟨rfl, fun t ht => by injection ht with ht; subst ht; rfl, rfl⟩
    case hQ =>
    intro d c' w1 hall hS
    have hS : SC wb ms (RR1 (grR ms f)) (d 1) (d 4) c' w1 := hS
    rw [hall 1 (by decide), hall 4 (by decide)] at hS
    obtain ⟨v, r⟩ := c'
    obtain ⟨hr, hb1⟩ := hS.fin
    replace HS := Lib.hid (HS.out.below hb1)
    clear hS hb1 hall
    simp only at hr
    obtain ⟨A2, c3, hv, hr⟩ := hr
    subst hv
    replace HS := Lib.hid (HS.out.setR hr)
    clear hr
    go_wp2_with fail
    refine (toM_any A n c ms _ HS.out.list Hn.out (by omega)).mono ?_
    rintro e w6 ⟨v, rfl, ho, hb1⟩
    obtain ⟨A4, c5, hv, _⟩ := ho.form
    rw [Hn.out] at hv
    subst hv
    have Ho := Lib.hid ho
    have Hb1 := Lib.hid hb1
    clear ho hb1
    replace HS := Lib.hid (HS.out.setX Hb1.out Ho.out)
    clear Hb1 Ho
    obtain ⟨x00, x01, x02, x03, x04, x05⟩ := (HS.out.box (w.heap.size, f) (by simp)).1
    go_wp2_with fail
    refine (toMap_any f _).mono ?_
    rintro e w7 ⟨rfl, hb1⟩
    replace HS := Lib.hid (HS.out.below hb1)
    clear hb1
    clear x00 x01 x02 x03 x04 x05
    go_wp2_with fail
    refine (ImplGR_any A4 n c5 ms f _ HS.out.ox.rdA Hn.out (HS.out.ox.nilA) (by omega)).mono ?_
    rintro e w8 ⟨v, rfl, ho, hb1⟩
    obtain ⟨A9, c10, hv, _⟩ := ho.form
    subst hv
    replace HS := Lib.hid (HS.out.setG hb1 ho)
    clear hb1 ho
    go_wp2_with fail
    refine (eqI_self A9 A2 (grR ms f).length c10 (grR ms f).length c3 (grR ms f) _ rfl rfl (show OwI 2 _ _ _ _ from HS.out.og).rdA HS.out.res (by have := hLen; omega)).mono ?_
    rintro e w11 ⟨rfl, hb1⟩
    replace HS := Lib.hid (HS.out.below hb1)
    clear hb1
    go_wp2_with fail
    refine (toM_any A n c ms _ HS.out.list Hn.out (by omega)).mono ?_
    rintro e w14 ⟨v, rfl, ho, hb1⟩
    obtain ⟨A12, c13, hv, _⟩ := ho.form
    rw [Hn.out] at hv
    subst hv
    have Ho := Lib.hid ho
    have Hb1 := Lib.hid hb1
    clear ho hb1
    replace HS := Lib.hid (HS.out.below Hb1.out)
    clear Hb1
    go_wp2_with fail
    refine (eqM_same A4 A12 n c5 c13 ms _ Hn.out HS.out.ox.rdA Ho.out.rdA (by omega)).mono ?_
    rintro e w15 ⟨rfl, hb1⟩
    replace HS := Lib.hid (HS.out.below hb1)
    clear hb1 Ho
    go_wp2_with fail
    refine (markM_any (.slice A4 n c5) _ ms 1 _ HS.out.ox (by omega) (by have := Hn.out; omega)).mono ?_
    rintro e w16 ⟨rfl, ho, hg⟩
    rw [Hn.out]
    replace HS := Lib.hid (HS.out.markX ho hg)
    clear ho hg
    have hk1 : ¬ ((1 : Int) + 6 * (n : Int) < 0) := by omega
    go_wp2_with fail
    refine (eqI_self A9 A2 (grR ms f).length c10 (grR ms f).length c3 (grR ms f) _ rfl rfl (show OwI 2 _ _ _ _ from HS.out.og).rdA HS.out.res (by have := hLen; omega)).mono ?_
    rintro e w17 ⟨rfl, hb1⟩
    replace HS := Lib.hid (HS.out.below hb1)
    clear hb1
    clear hk1
    go_wp2_with fail
    refine (markI_any (.slice A9 (grR ms f).length c10) _ (grR ms f) 1 _ HS.out.og (by omega) (by have := hLen; omega)).mono ?_
    rintro e w18 ⟨rfl, ho, hg⟩
    have hml := marks_length (grR ms f).length 1
    unfold OwI at ho
    rw [hml] at ho
    replace HS := Lib.hid (HS.out.markG ho hg)
    clear ho hg
    have hm1 : ¬ ((1 : Int) + ((grR ms f).length : Int) < 0) := by omega
    have Hml := Lib.hid hml
    clear hml
    go_wp2_with fail
    have hml := Hml.out
    refine (heldI_any A9 (grR ms f).length c10 1 _ ((show OwI 2 _ _ (.slice A9 (grR ms f).length c10) (marks (grR ms f).length 1) from (by unfold OwI; rw [hml]; exact HS.out.og))).rdA (by omega) (by have := hLen; omega)).mono ?_
    rintro e w19 ⟨rfl, rfl⟩
    clear hml
    go_wp2_with fail
    refine wp_region_flags [] rfl (by kernel_rfl) (by kernel_rfl) [] (by kernel_rfl) _
      (fun c' : GC => [.slice A n c, c'.v, .agg (mc f), .agg (mc f), .tuple #[c'.r, I (monC ms [f])], .tuple #[c'.r, I (monC ms [f])], c'.r, I (monC ms [f]), c'.r, I (monC ms [f])])
      (by intro c'; simp only [putAll, List.setIfInBounds_toArray, List.set_cons_succ, List.set_cons_zero]; rfl)
      [] rfl _
      (by intro c'; simp only [setAll]; rfl) (by kernel_rfl)
      (fun d c' w' => SC w18 ms (RR1 (grR ms f)) (d 1) (d 4) c' w')
      ⟨undef, undef⟩ (SC.start (Below.refl _ _).drew) ?hop ?hQ
    case hop =>
      refine ⟨?_, ?_, ?_, ?_, ?_, ?_, ?_, ?_, ?_, ?_, trivial⟩
      · refine ⟨rfl, Flag.pure (fun _ _ _ h => h) fun d c' w' hd hdeps hcl hS => ?_⟩
        clear hS hdeps hcl hd
        unfold Oper.wp
        go_simp
        exact ⟨rfl, fun t ht => by injection ht with ht; subst ht; rfl, rfl⟩
      · refine ⟨rfl, fun d c' w' hd hdeps hcl hS => ?_⟩
        have dC := hcl.down (k := 4) (j := 1) rfl (by kernel_rfl) hd
        have hS : SC w18 ms (RR1 (grR ms f)) (d 1) (d 4) c' w' := hS
        rw [hd, dC] at hS
        have hS2 := Lib.hid hS
        clear hS hdeps hcl
        unfold Oper.wp
        go_simp
        refine (toM_any A n c ms _ (Rd.more (Rd.below HS.out.list hS2.out.bel) hS2.out.bel.size) Hn.out (by omega)).mono ?_
        rintro e w2 ⟨v', rfl, ho, hb1⟩
        refine FlagPost.own ({ c' with v := v' } : GC) 81 v' rfl rfl rfl ?_ rfl
        show SC _ _ _ true (d 4) _ _
        rw [dC]
        exact hS2.out.doA ho hb1
      · refine ⟨rfl, Flag.pure (fun _ _ _ h => h) fun d c' w' hd hdeps hcl hS => ?_⟩
        have hS : SC w18 ms (RR1 (grR ms f)) (d 1) (d 4) c' w' := hS
        have s0 := (HS.out.box (w.heap.size, f) (by simp)).1.below hS.bel (HS.out.box (w.heap.size, f) (by simp)).1.lt
        simp only at s0
        clear hS hdeps hcl hd
        unfold Oper.wp
        go_simp
        exact ⟨rfl, fun t ht => by injection ht with ht; subst ht; rfl, rfl⟩
      · refine ⟨rfl, fun d c' w' hd hdeps hcl hS => ?_⟩
        have hS2 := Lib.hid (show SC w18 ms (RR1 (grR ms f)) (d 1) (d 4) c' w' from hS)
        clear hS hdeps hcl
        unfold Oper.wp
        go_simp
        refine (toMap_any f _).mono ?_
        rintro e w2 ⟨rfl, hb1⟩
        refine FlagPost.own c' 83 (.agg (mc f)) rfl rfl rfl ?_ rfl
        exact SC.below RR1.below hS2.out hb1
      · refine ⟨rfl, fun d c' w' hd hdeps hcl hS => ?_⟩
        have dA := hdeps 1 (by kernel_rfl)
        have hS : SC w18 ms (RR1 (grR ms f)) (d 1) (d 4) c' w' := hS
        rw [dA, hd] at hS
        obtain ⟨v, r⟩ := c'
        have ha := hS.a rfl rfl
        simp only at ha
        obtain ⟨Av, cv, hv, hr⟩ := ha.form
        rw [Hn.out] at hv
        subst hv
        have hS2 := Lib.hid hS
        have Hr := Lib.hid hr
        have Ha := Lib.hid ha
        clear hS hr ha hdeps
        unfold Oper.wp
        go_simp
        refine (ImplGR_any Av n cv ms f _ Hr.out Hn.out (Ha.out.nilA) (by omega)).mono ?_
        rintro e w2 hp
        obtain ⟨r', rfl, hr', hb1⟩ := RetSI.out (RetI.toS hp)
        refine FlagPost.chain (⟨.slice Av n cv, r'⟩ : GC) [(84, .tuple #[r', I (monC ms [f])]), (79, .tuple #[r', I (monC ms [f])]), (85, r'), (14, r')] 84 rfl rfl rfl ?_ rfl rfl hcl hd (by kernel_rfl) (by kernel_rfl)
        show SC _ _ _ (d 1) true _ _
        rw [dA]
        exact hS2.out.doC hr' hb1
      · refine ⟨rfl, Flag.pure (fun _ _ _ h => h) fun d c' w' hd hdeps hcl hS => ?_⟩
        clear hS hdeps hcl hd
        unfold Oper.wp
        go_simp
        exact ⟨rfl, fun t ht => by injection ht with ht; subst ht; rfl, rfl⟩
      · refine ⟨rfl, Flag.pure (fun _ _ _ h => h) fun d c' w' hd hdeps hcl hS => ?_⟩
        clear hS hdeps hcl hd
        unfold Oper.wp
        go_simp
        exact ⟨rfl, fun t ht => by injection ht with ht; subst ht; rfl, rfl⟩
      · refine ⟨rfl, Flag.pure (fun _ _ _ h => h) fun d c' w' hd hdeps hcl hS => ?_⟩
        clear hS hdeps hcl hd
        unfold Oper.wp
        go_simp
        exact ⟨rfl, fun t ht => by injection ht with ht; subst ht; rfl, rfl⟩
      · refine ⟨rfl, Flag.pure (fun _ _ _ h => h) fun d c' w' hd hdeps hcl hS => ?_⟩
        clear hS hdeps hcl hd
        unfold Oper.wp
        go_simp
        exact ⟨rfl, fun t ht => by injection ht with ht; subst ht; rfl, rfl⟩
      · refine ⟨rfl, Flag.pure (fun _ _ _ h => h) fun d c' w' hd hdeps hcl hS => ?_⟩
        clear hS hdeps hcl hd
        unfold Oper.wp
        go_simp
        exact ⟨rfl, fun t ht => by injection ht with ht; subst ht; rfl, rfl⟩
    case hQ =>
    intro d c' w20 hall hS
    have hS : SC w18 ms (RR1 (grR ms f)) (d 1) (d 4) c' w20 := hS
    rw [hall 1 (by decide), hall 4 (by decide)] at hS
    obtain ⟨v, r⟩ := c'
    obtain ⟨hr, hb1⟩ := hS.fin
    replace HS := Lib.hid (HS.out.below hb1)
    clear hS hb1 hall
    simp only at hr
    obtain ⟨A21, c22, hv, hr⟩ := hr
    subst hv
    have Hr := Lib.hid hr
    clear hr
    go_wp2_with fail
    refine (eqI_self A21 A2 (grR ms f).length c22 (grR ms f).length c3 (grR ms f) _ rfl rfl Hr.out HS.out.res (by have := hLen; omega)).mono ?_
    rintro e w23 ⟨rfl, hb1⟩
    replace HS := Lib.hid (HS.out.below hb1)
    clear hb1
    clear Hr
    have hml := Hml.out
    have Hml := Lib.hid hml
    clear hml
    go_wp2_with fail
    have hml := Hml.out
    refine (heldI_any A9 (grR ms f).length c10 1 _ ((show OwI 2 _ _ (.slice A9 (grR ms f).length c10) (marks (grR ms f).length 1) from (by unfold OwI; rw [hml]; exact HS.out.og))).rdA (by omega) (by have := hLen; omega)).mono ?_
    rintro e w24 ⟨rfl, rfl⟩
    clear hml
    go_wp2
    go_ret
    exact ⟨rfl, HS.out.bel⟩
end Go.Proofs.Ytneonacdjmfaoaa
