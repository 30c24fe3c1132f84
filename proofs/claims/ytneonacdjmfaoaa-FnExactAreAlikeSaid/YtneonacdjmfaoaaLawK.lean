/- The walk of the statement on AreAlike; the lists lie below the heap's end. -/
import Derived.Test.YtneonacdjmfaoaaJ8
import Derived.Test.YtneonacdjmfaoaaOpen
namespace Go.Proofs.Ytneonacdjmfaoaa
open Go.RowKit
set_option maxRecDepth 100000
set_option linter.unusedSimpArgs false
set_option linter.unusedVariables false

theorem RdM.carry {w w' : World} {A : Option Addr} {ms : List M} (h : RdM w w.heap.size A ms) (hb : Below w.heap.size w w') : RdM w' w'.heap.size A ms := Rd.more (Rd.below h hb) hb.size

theorem lawAreAlike (A : Option Addr) (n c : Nat) (ms : List M) (f : M) (g : M) (k : Int) (w : World) (hx : RdM w w.heap.size A ms) (hn : ms.length = n) (hmax : n ≤ maxLen) :
    Calls Try.prog 4 #[.slice A n c, .agg (mc f), .agg (mc g), .int .i64 k] w fun e w' => e = .returned (.bool true) ∧ Below w.heap.size w w' := by
  have Hn := Lib.hid hn
  have HX := Lib.hid hx
  have hmax2 : n ≤ 9223372036854775807 := by unfold maxLen at hmax; omega
  clear hn hx hmax
  by_cases hl : 1048576 < n
  · have h1 : (if (1048576 : Nat) < n then (-1 : Int) else ((1048576 - n : Nat) : Int)) = -1 := if_pos hl
    have Hsz : Hid (∀ w, Calls Try.prog 10 #[.slice A n c, .int .i64 1048576] w fun e w' => e = .returned (.int .i64 (-1)) ∧ w = w') := fun w => by have := szM_any A n c 1048576 w (by omega) hmax2; rw [h1] at this; exact this
    clear h1
    go_enter Try.func4, Try.ntmps4
    go_wp2_with fail
    refine (Hsz.out _).mono ?_
    rintro e w1 ⟨rfl, rfl⟩
    go_wp2
    go_ret
    exact ⟨rfl, (((Below.refl _ _).alloc (Nat.le_refl _) _).alloc (by simp <;> omega) _)⟩
  · have h1 : (if (1048576 : Nat) < n then (-1 : Int) else ((1048576 - n : Nat) : Int)) = ((1048576 - n : Nat) : Int) := if_neg hl
    have Hsz : Hid (∀ w, Calls Try.prog 10 #[.slice A n c, .int .i64 1048576] w fun e w' => e = .returned (.int .i64 ((1048576 - n : Nat) : Int)) ∧ w = w') := fun w => by have := szM_any A n c 1048576 w (by omega) hmax2; rw [h1] at this; exact this
    have hnn : ¬ (((1048576 - n : Nat) : Int) < 0) := by omega
    have hb : n < 1048577 := by omega
    have hcc : ((cnC ms [f, g] k) != (cnC ms [f, g] k)) = false := by simp
    clear h1
    obtain ⟨wb, hwb⟩ : ∃ wb, wb = ((w.alloc (.cells (mc f) 36)).alloc (.cells (mc g) 36)) := ⟨_, rfl⟩
    have HS : Hid (LS w A ms [(w.heap.size, f), (w.heap.size + 1, g)] 6 wb.heap.size none 0 [] wb.heap.size (.slice none 0 0) [] wb.heap.size 39 6 (.slice none 0 0) 0 [] wb) := by
      refine LS.start HX.out (by rw [hwb]; exact (((Below.refl _ _).alloc (Nat.le_refl _) _).alloc (by simp <;> omega) _)) ?_
      intro p hp
      simp only [List.mem_cons, List.not_mem_nil, or_false] at hp
      rcases hp with rfl | rfl
      · exact ⟨by rw [hwb]; exact Six.alloc (Blk.six (Blk.new w _ _)) _, Nat.le_refl _⟩
      · exact ⟨by rw [hwb]; exact Blk.six (Blk.new' _ _ _ (by simp)), by simp⟩
    have Hwb := Lib.hid hwb
    clear hwb
    go_enter Try.func4, Try.ntmps4
    go_wp2_with fail
    refine (Hsz.out _).mono ?_
    rintro e w1 ⟨rfl, rfl⟩
    clear Hsz
    go_wp2_with fail
    rw [← Hwb.out]
    clear Hwb
    refine wp_region_flags [] rfl (by kernel_rfl) (by kernel_rfl) [] (by kernel_rfl) _
      (fun c' : GC => [.slice A n c, c'.v, .agg (mc f), .agg (mc f), .agg (mc g), .agg (mc g), I k, .tuple #[.bool (aaR ms f g k), I (cnC ms [f, g] k)], .tuple #[.bool (aaR ms f g k), I (cnC ms [f, g] k)], .bool (aaR ms f g k), I (cnC ms [f, g] k), .bool (aaR ms f g k), I (cnC ms [f, g] k)])
      (by intro c'; simp only [putAll, List.setIfInBounds_toArray, List.set_cons_succ, List.set_cons_zero]; rfl)
      [] rfl _
      (by intro c'; simp only [setAll]; rfl) (by kernel_rfl)
      (fun d c' w' => SC wb ms (fun _ _ => True) (d 1) (d 7) c' w')
      ⟨undef, undef⟩ (SC.start (Below.refl _ _).drew) ?hop ?hQ
    case hop =>
      refine ⟨?_, ?_, ?_, ?_, ?_, ?_, ?_, ?_, ?_, ?_, ?_, ?_, ?_, trivial⟩
      · refine ⟨rfl, Flag.pure (fun _ _ _ h => h) fun d c' w' hd hdeps hcl hS => ?_⟩
        clear hS hdeps hcl hd
        unfold Oper.wp
        go_simp
        exact ⟨rfl, fun t ht => by injection ht with ht; subst ht; rfl, rfl⟩
      · refine ⟨rfl, fun d c' w' hd hdeps hcl hS => ?_⟩
        have dC := hcl.down (k := 7) (j := 1) rfl (by kernel_rfl) hd
        have hS : SC wb ms (fun _ _ => True) (d 1) (d 7) c' w' := hS
        rw [hd, dC] at hS
        have hS2 := Lib.hid hS
        clear hS hdeps hcl
        unfold Oper.wp
        go_simp
        refine (toM_any A n c ms _ (Rd.more (Rd.below HS.out.list hS2.out.bel) hS2.out.bel.size) Hn.out (by omega)).mono ?_
        rintro e w2 ⟨v', rfl, ho, hb1⟩
        refine FlagPost.own ({ c' with v := v' } : GC) 22 v' rfl rfl rfl ?_ rfl
        show SC _ _ _ true (d 7) _ _
        rw [dC]
        exact hS2.out.doA ho hb1
      · refine ⟨rfl, Flag.pure (fun _ _ _ h => h) fun d c' w' hd hdeps hcl hS => ?_⟩
        have hS : SC wb ms (fun _ _ => True) (d 1) (d 7) c' w' := hS
        have s0 := (HS.out.box (w.heap.size, f) (by simp)).1.below hS.bel (HS.out.box (w.heap.size, f) (by simp)).1.lt
        simp only at s0
        clear hS hdeps hcl hd
        unfold Oper.wp
        go_simp
        exact ⟨rfl, fun t ht => by injection ht with ht; subst ht; rfl, rfl⟩
      · refine ⟨rfl, fun d c' w' hd hdeps hcl hS => ?_⟩
        have hS2 := Lib.hid (show SC wb ms (fun _ _ => True) (d 1) (d 7) c' w' from hS)
        clear hS hdeps hcl
        unfold Oper.wp
        go_simp
        refine (toMap_any f _).mono ?_
        rintro e w2 ⟨rfl, hb1⟩
        refine FlagPost.own c' 24 (.agg (mc f)) rfl rfl rfl ?_ rfl
        exact SC.below (fun _ _ _ _ _ => trivial) hS2.out hb1
      · refine ⟨rfl, Flag.pure (fun _ _ _ h => h) fun d c' w' hd hdeps hcl hS => ?_⟩
        have hS : SC wb ms (fun _ _ => True) (d 1) (d 7) c' w' := hS
        have s0 := (HS.out.box (w.heap.size + 1, g) (by simp)).1.below hS.bel (HS.out.box (w.heap.size + 1, g) (by simp)).1.lt
        simp only at s0
        clear hS hdeps hcl hd
        unfold Oper.wp
        go_simp
        exact ⟨rfl, fun t ht => by injection ht with ht; subst ht; rfl, rfl⟩
      · refine ⟨rfl, fun d c' w' hd hdeps hcl hS => ?_⟩
        have hS2 := Lib.hid (show SC wb ms (fun _ _ => True) (d 1) (d 7) c' w' from hS)
        clear hS hdeps hcl
        unfold Oper.wp
        go_simp
        refine (toMap_any g _).mono ?_
        rintro e w2 ⟨rfl, hb1⟩
        refine FlagPost.own c' 26 (.agg (mc g)) rfl rfl rfl ?_ rfl
        exact SC.below (fun _ _ _ _ _ => trivial) hS2.out hb1
      · refine ⟨rfl, Flag.pure (fun _ _ _ h => h) fun d c' w' hd hdeps hcl hS => ?_⟩
        clear hS hdeps hcl hd
        unfold Oper.wp
        go_simp
        exact ⟨rfl, fun t ht => by injection ht with ht; subst ht; rfl, rfl⟩
      · refine ⟨rfl, fun d c' w' hd hdeps hcl hS => ?_⟩
        have dA := hdeps 1 (by kernel_rfl)
        have hS : SC wb ms (fun _ _ => True) (d 1) (d 7) c' w' := hS
        rw [dA, hd] at hS
        obtain ⟨v, r⟩ := c'
        have ha := hS.a rfl rfl
        simp only at ha
        obtain ⟨Av, cv, hv, hr⟩ := ha.form
        rw [Hn.out] at hv
        subst hv
        have hS2 := Lib.hid hS
        have Hr := Lib.hid hr
        have Ha := Lib.hid ha
        clear hS hr ha hdeps
        unfold Oper.wp
        go_simp
        refine (SpecAA_any Av n cv ms f g k _ (Hr.out) Hn.out (by omega)).mono ?_
        rintro e w2 ⟨rfl, hb1⟩
        refine FlagPost.chain (⟨.slice Av n cv, r⟩ : GC) [] 28 rfl rfl rfl ?_ rfl rfl hcl hd (by kernel_rfl) (by kernel_rfl)
        show SC _ _ _ (d 1) true _ _
        rw [dA]
        exact hS2.out.doC (r := r) trivial hb1
      · refine ⟨rfl, Flag.pure (fun _ _ _ h => h) fun d c' w' hd hdeps hcl hS => ?_⟩
        clear hS hdeps hcl hd
        unfold Oper.wp
        go_simp
        exact ⟨rfl, fun t ht => by injection ht with ht; subst ht; rfl, rfl⟩
      · refine ⟨rfl, Flag.pure (fun _ _ _ h => h) fun d c' w' hd hdeps hcl hS => ?_⟩
        clear hS hdeps hcl hd
        unfold Oper.wp
        go_simp
        exact ⟨rfl, fun t ht => by injection ht with ht; subst ht; rfl, rfl⟩
      · refine ⟨rfl, Flag.pure (fun _ _ _ h => h) fun d c' w' hd hdeps hcl hS => ?_⟩
        clear hS hdeps hcl hd
        unfold Oper.wp
        go_simp
        exact ⟨rfl, fun t ht => by injection ht with ht; subst ht; rfl, rfl⟩
      · refine ⟨rfl, Flag.pure (fun _ _ _ h => h) fun d c' w' hd hdeps hcl hS => ?_⟩
        clear hS hdeps hcl hd
        unfold Oper.wp
        go_simp
        exact ⟨rfl, fun t ht => by injection ht with ht; subst ht; rfl, rfl⟩
      · refine ⟨rfl, Flag.pure (fun _ _ _ h => h) fun d c' w' hd hdeps hcl hS => ?_⟩
        clear hS hdeps hcl hd
        unfold Oper.wp
        go_simp
        exact ⟨rfl, fun t ht => by injection ht with ht; subst ht; rfl, rfl⟩
    case hQ =>
    intro d c' w1 hall hS
    have hS : SC wb ms (fun _ _ => True) (d 1) (d 7) c' w1 := hS
    rw [hall 1 (by decide), hall 7 (by decide)] at hS
    obtain ⟨v, r⟩ := c'
    obtain ⟨hr, hb1⟩ := hS.fin
    replace HS := Lib.hid (HS.out.below hb1)
    clear hS hb1 hall
    clear hr
    go_wp2_with fail
    refine (toM_any A n c ms _ HS.out.list Hn.out (by omega)).mono ?_
    rintro e w4 ⟨v, rfl, ho, hb1⟩
    obtain ⟨A2, c3, hv, _⟩ := ho.form
    rw [Hn.out] at hv
    subst hv
    have Ho := Lib.hid ho
    have Hb1 := Lib.hid hb1
    clear ho hb1
    replace HS := Lib.hid (HS.out.setX Hb1.out Ho.out)
    clear Hb1 Ho
    have hbl0 := (HS.out.box (w.heap.size, f) (by simp)).1.lt
    have hbl1 := (HS.out.box (w.heap.size + 1, g) (by simp)).1.lt
    go_wp2_with fail
    refine wp_region_same [] rfl (by kernel_rfl) (by kernel_rfl) (by kernel_rfl) (fun w' => Below w4.heap.size w4 w') _
      [.slice A2 n c3, .agg (mc f), .agg (mc f), .agg (mc g), .agg (mc g), I k, .tuple #[.bool (aaR ms f g k), I (cnC ms [f, g] k)], .tuple #[.bool (aaR ms f g k), I (cnC ms [f, g] k)], .bool (aaR ms f g k), I (cnC ms [f, g] k), .bool (aaR ms f g k), I (cnC ms [f, g] k)]
      (by simp only [putAll, List.setIfInBounds_toArray, List.set_cons_succ, List.set_cons_zero]; rfl) (Below.refl _ _).drew ?hop ?hQ
    case hop =>
      refine FixBL.toL (fun w' w'' hS hb => hS.trans (hb.mono hS.size)) _ _ ?_
      refine ⟨.inr ?_, .inr ?_, .inr ?_, .inr ?_, .inr ?_, .inr ?_, .inr ?_, .inr ?_, .inr ?_, .inr ?_, .inr ?_, .inr ?_, trivial⟩
      · (with_reducible refine FixB.of ?_ ?_; rfl; intro w' hS; have s0 := (HS.out.box (w.heap.size, f) (by simp)).1.below hS hbl0; have s1 := (HS.out.box (w.heap.size + 1, g) (by simp)).1.below hS hbl1; clear hS; unfold Oper.wp; go_simp; first | done | exact Below.refl _ _)
      · (with_reducible refine FixB.of ?_ ?_; rfl; intro w' hS; have s0 := (HS.out.box (w.heap.size, f) (by simp)).1.below hS hbl0; have s1 := (HS.out.box (w.heap.size + 1, g) (by simp)).1.below hS hbl1; clear hS; unfold Oper.wp; go_simp; first | done | exact Below.refl _ _)
      · (with_reducible refine FixB.of ?_ ?_; rfl; intro w' hS; have s3 := Lib.hid hS; unfold Oper.wp; clear hS; go_simp; refine (toMap_any f _).mono ?_; rintro e w1 ⟨rfl, hb⟩; exact ⟨rfl, hb⟩)
      · (with_reducible refine FixB.of ?_ ?_; rfl; intro w' hS; have s0 := (HS.out.box (w.heap.size, f) (by simp)).1.below hS hbl0; have s1 := (HS.out.box (w.heap.size + 1, g) (by simp)).1.below hS hbl1; clear hS; unfold Oper.wp; go_simp; first | done | exact Below.refl _ _)
      · (with_reducible refine FixB.of ?_ ?_; rfl; intro w' hS; have s3 := Lib.hid hS; unfold Oper.wp; clear hS; go_simp; refine (toMap_any g _).mono ?_; rintro e w1 ⟨rfl, hb⟩; exact ⟨rfl, hb⟩)
      · (with_reducible refine FixB.of ?_ ?_; rfl; intro w' hS; have s0 := (HS.out.box (w.heap.size, f) (by simp)).1.below hS hbl0; have s1 := (HS.out.box (w.heap.size + 1, g) (by simp)).1.below hS hbl1; clear hS; unfold Oper.wp; go_simp; first | done | exact Below.refl _ _)
      · (with_reducible refine FixB.of ?_ ?_; rfl; intro w' hS; have s3 := Lib.hid hS; have s2 : RdM w' w'.heap.size A2 ms := RdM.carry HS.out.ox.rdA hS; unfold Oper.wp; clear hS; go_simp; refine (ImplAA_any A2 n c3 ms f g k _ (s2) Hn.out (HS.out.ox.nilA) (by omega)).mono ?_; rintro e w1 ⟨rfl, hb⟩; exact ⟨rfl, hb⟩)
      · (with_reducible refine FixB.of ?_ ?_; rfl; intro w' hS; have s0 := (HS.out.box (w.heap.size, f) (by simp)).1.below hS hbl0; have s1 := (HS.out.box (w.heap.size + 1, g) (by simp)).1.below hS hbl1; clear hS; unfold Oper.wp; go_simp; first | done | exact Below.refl _ _)
      · (with_reducible refine FixB.of ?_ ?_; rfl; intro w' hS; have s0 := (HS.out.box (w.heap.size, f) (by simp)).1.below hS hbl0; have s1 := (HS.out.box (w.heap.size + 1, g) (by simp)).1.below hS hbl1; clear hS; unfold Oper.wp; go_simp; first | done | exact Below.refl _ _)
      · (with_reducible refine FixB.of ?_ ?_; rfl; intro w' hS; have s0 := (HS.out.box (w.heap.size, f) (by simp)).1.below hS hbl0; have s1 := (HS.out.box (w.heap.size + 1, g) (by simp)).1.below hS hbl1; clear hS; unfold Oper.wp; go_simp; first | done | exact Below.refl _ _)
      · (with_reducible refine FixB.of ?_ ?_; rfl; intro w' hS; have s0 := (HS.out.box (w.heap.size, f) (by simp)).1.below hS hbl0; have s1 := (HS.out.box (w.heap.size + 1, g) (by simp)).1.below hS hbl1; clear hS; unfold Oper.wp; go_simp; first | done | exact Below.refl _ _)
      · (with_reducible refine FixB.of ?_ ?_; rfl; intro w' hS; have s0 := (HS.out.box (w.heap.size, f) (by simp)).1.below hS hbl0; have s1 := (HS.out.box (w.heap.size + 1, g) (by simp)).1.below hS hbl1; clear hS; unfold Oper.wp; go_simp; first | done | exact Below.refl _ _)
    case hQ =>
    intro w5 hb1 _
    replace HS := Lib.hid (HS.out.below hb1)
    clear hb1 hbl0 hbl1
    go_wp2_with fail
    refine (toM_any A n c ms _ HS.out.list Hn.out (by omega)).mono ?_
    rintro e w8 ⟨v, rfl, ho, hb1⟩
    obtain ⟨A6, c7, hv, _⟩ := ho.form
    rw [Hn.out] at hv
    subst hv
    have Ho := Lib.hid ho
    have Hb1 := Lib.hid hb1
    clear ho hb1
    replace HS := Lib.hid (HS.out.below Hb1.out)
    clear Hb1
    go_wp2_with fail
    refine (eqM_same A2 A6 n c3 c7 ms _ Hn.out HS.out.ox.rdA Ho.out.rdA (by omega)).mono ?_
    rintro e w9 ⟨rfl, hb1⟩
    replace HS := Lib.hid (HS.out.below hb1)
    clear hb1 Ho
    go_wp2
    go_ret
    exact ⟨rfl, HS.out.bel⟩
end Go.Proofs.Ytneonacdjmfaoaa
