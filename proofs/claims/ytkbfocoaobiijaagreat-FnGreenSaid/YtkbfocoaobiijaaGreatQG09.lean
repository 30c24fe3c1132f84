/- Contracts of IsUnder on both sides; the lists are as each theorem states. Contracts of IsRegular on both sides; the lists are as each theorem states. Contract of the program's IsRegular; the lists are as the theorem states. Contract of the program's numbering of classes by a predicate of two places; at most 300 places. Contracts of the program's numbers of classes and their count; the monoid has at most 300 elements. Contract of the reference's table of ideals; conditions as the theorem states. Contract of the reference's numbers of classes from a table; at most 300 rows. Contract of the reference's numbers of the classes of a kind; conditions as the theorem states. Contracts of the greatest number of a list, on both sides, of the count of classes and of the test of a kind; conditions as each theorem states. -/
import Derived.Test.YtkbfocoaobiijaaGreatQG08
set_option linter.unusedSimpArgs false
set_option linter.unusedVariables false
namespace Go.Proofs.YtkbfocoaobiijaaGreat
open Go.RowKit
set_option maxRecDepth 100000
set_option linter.unusedSimpArgs false
set_option linter.unusedVariables false
theorem monC_el {ms xs : List M} (h : monC ms xs = 0) : ∃ E ps, El ms xs E ps ∧ ∀ f ∈ xs, f ∈ E := by
  have hc : elC ms xs = 0 := by
    by_cases hc : elC ms xs = 0
    · exact hc
    · rw [elC_mon hc] at h; exact h
  obtain ⟨E, ps, hE⟩ := elC_el hc
  refine ⟨E, ps, hE, fun f hf => ?_⟩
  by_cases hin : f ∈ E
  · exact hin
  · have := monC_out hE.code hE.clo hf (by rw [← hE.eq]; exact hin)
    rw [this] at h; cases h
theorem rd_two {w : World} {f g : M} {b : Nat} (h : Blk w b 31 #[I f.p, I f.t0, I f.t1, I f.t2, I f.t3, I f.t4, I g.p, I g.t0, I g.t1, I g.t2, I g.t3, I g.t4]) : RdM w w.heap.size (some ⟨b, 0, none⟩) [f, g] := by
  refine ⟨by simp [mcs], fun _ => ⟨b, 0, rfl, h.lt, fun j u hj => ?_⟩⟩
  rw [Nat.zero_add, h.cell, ← hj, ← Array.getElem?_toList]
  simp only [mcs, List.flatMap_cons, List.flatMap_nil, List.append_nil]
  rfl
def iuR (ms : List M) (f g : M) : Bool := decide (monC ms [f, g] = 0) && decide (JJ (elR ms [f, g]) g f)
set_option maxHeartbeats 1000000 in
theorem SpecIsUnder_any (A : Option Addr) (n c : Nat) (ms : List M) (f g : M) (w : World) (hx : RdM w w.heap.size A ms) (hn : ms.length = n) (hb : n < 1073741824) :
    Calls Tryz.prog 60 #[.slice A n c, .agg (mc f), .agg (mc g)] w fun e w' => e = .returned (.tuple #[.bool (iuR ms f g), I (monC ms [f, g])]) ∧ Below w.heap.size w w' := by
  obtain ⟨wb, hwb⟩ : ∃ wb, wb = ((w.alloc (.cells (mc f) 31)).alloc (.cells (mc g) 31)).alloc (.cells #[I f.p, I f.t0, I f.t1, I f.t2, I f.t3, I f.t4, I g.p, I g.t0, I g.t1, I g.t2, I g.t3, I g.t4] 31) := ⟨_, rfl⟩
  have hbb : Below w.heap.size w wb := by rw [hwb]; exact (((Below.refl _ _).alloc (Nat.le_refl _) _).alloc (by simp) _).alloc (by simp; omega) _
  have h7 : RdM wb wb.heap.size (some ⟨w.heap.size + 2, 0, none⟩) [f, g] := by rw [hwb]; exact rd_two (Blk.new' _ _ _ (by simp))
  have Hx := Lib.hid (Rd.more (Rd.below hx hbb) hbb.size)
  have Hn := Lib.hid hn
  have H7 := Lib.hid h7
  have Hbb := Lib.hid hbb
  have Hwb := Lib.hid hwb
  clear hx hn h7 hbb hwb
  by_cases hc : monC ms [f, g] = 0
  · obtain ⟨E, ps, hE, hin⟩ := monC_el hc
    have hfE := hin f (by simp)
    have hgE := hin g (by simp)
    have hR : iuR ms f g = decide (JJ E g f) := by unfold iuR; rw [decide_eq_true hc, Bool.true_and, hE.r]
    have hG : gR ms [f, g] = E := by unfold gR; rw [if_pos hc, hE.r]
    have hNN : gN ms [f, g] = [(ix E f : Int), (ix E g : Int)] := by unfold gN; rw [if_pos hc, hE.r]; rfl
    have hlen := hE.len
    have hn6 := hE.n6
    obtain ⟨x, hxx⟩ : ∃ x, x = ix E f := ⟨_, rfl⟩
    obtain ⟨y, hyy⟩ : ∃ y, y = ix E g := ⟨_, rfl⟩
    have hxl : x < E.length := by rw [hxx]; exact ix_lt hfE
    have hyl : y < E.length := by rw [hyy]; exact ix_lt hgE
    obtain ⟨t, ht⟩ : ∃ t, t = iuR ms f g := ⟨_, rfl⟩
    have Ht : Hid (decide (Rel E true true (gm E y) (gm E x)) = t) := by
      show _ = _
      rw [ht, hR, hxx, hyy, gm_ix hfE, gm_ix hgE]
      rfl
    rw [← hxx, ← hyy] at hNN
    obtain ⟨N, hN⟩ : ∃ N, E.length = N := ⟨_, rfl⟩
    rw [hN] at hlen hxl hyl
    have HN := Lib.hid hN
    have HE := Lib.hid hE
    have Hc := Lib.hid hc
    have HG := Lib.hid hG
    have HNN := Lib.hid hNN
    have hxz : (x : Int) < (N : Int) := by omega
    have hn6' : n ≤ 6 := by rw [← Hn.out]; exact hn6
    rw [← ht]
    clear hE hc hR hin hG hNN hxx hyy ht hN hfE hgE hn6
    go_enter Tryz.func60, Tryz.ntmps60
    go_wp2_with fail
    rw [← Hwb.out]
    refine (l03Given_any A (some ⟨w.heap.size + 2, 0, none⟩) n c 2 2 ms [f, g] wb Hx.out H7.out Hn.out rfl hb (by decide)).mono ?_
    rintro e w1 ⟨A', c', v, rfl, hr, hv, hb1⟩
    rw [HG.out] at hr ⊢
    rw [HNN.out] at hv
    rw [Hc.out, HN.out]
    obtain ⟨Av, cv, hvv, hrv⟩ := hv.form
    subst hvv
    obtain ⟨bv, ov, e, hbv, c0⟩ := RdI.at_ hrv (k := 0) (by simp)
    subst e
    obtain ⟨bv', ov', e, _, c1⟩ := RdI.at_ hrv (k := 1) (by simp)
    injection e with e
    injection e with e1 e2 _
    subst e1 e2
    rw [Nat.add_zero] at c0
    have C0 : Hid (w1.cell? ⟨bv, ov, none⟩ = some (I x)) := c0
    have C1 : Hid (w1.cell? ⟨bv, ov + 1, none⟩ = some (I y)) := c1
    have Hr := Lib.hid hr
    have Hb1 := Lib.hid hb1
    have hz1 := hb1.size
    simp only [List.length_cons, List.length_nil, Nat.zero_add]
    clear hr hv hrv hb1 c0 c1
    go_wp2_with fail
    refine wp_region_flags [] rfl (by kernel_rfl) (by kernel_rfl) [] (by kernel_rfl) _
      (fun s : Nat => [.slice A' N c', .slice A n c, .slice (some ⟨bv, ov, none⟩) 2 cv, .pointer (some ⟨bv, ov + 1, none⟩), I y, .slice (some ⟨s, 0, none⟩) N N, .slice (some ⟨bv, ov, none⟩) 2 cv, .pointer (some ⟨bv, ov, none⟩), I x, .pointer (some ⟨s, x, none⟩), .bool t, .bool t, I 0])
      (by intro s; simp only [putAll, List.setIfInBounds_toArray, List.set_cons_succ, List.set_cons_zero]; rfl)
      [] rfl _
      (by intro s; simp only [setAll, List.setIfInBounds_toArray, List.set_cons_succ, List.set_cons_zero]; rfl) (by kernel_rfl)
      (fun d s w' => Below w1.heap.size w1 w' ∧ (d 5 = true → Bls w' s N fun z => decide (Rel E true true (gm E y) (gm E z))))
      0 ⟨(Below.refl _ _).drew, by simp⟩ ?hop ?hQ
    case hop =>
      refine ⟨?_, ?_, ?_, ?_, ?_, ?_, ?_, ?_, ?_, ?_, ?_, ?_, ?_, trivial⟩
      · refine ⟨rfl, Flag.pure (fun _ _ _ h => h) fun d c w' hd hdeps hcl hS => ?_⟩
        skip
        clear hS hdeps hcl hd
        unfold Oper.wp
        go_simp
        exact ⟨rfl, fun t ht => by injection ht with ht; subst ht; rfl, rfl⟩
      · refine ⟨rfl, Flag.pure (fun _ _ _ h => h) fun d c w' hd hdeps hcl hS => ?_⟩
        skip
        clear hS hdeps hcl hd
        unfold Oper.wp
        go_simp
        exact ⟨rfl, fun t ht => by injection ht with ht; subst ht; rfl, rfl⟩
      · refine ⟨rfl, Flag.pure (fun _ _ _ h => h) fun d c w' hd hdeps hcl hS => ?_⟩
        skip
        clear hS hdeps hcl hd
        unfold Oper.wp
        go_simp
        exact ⟨rfl, fun t ht => by injection ht with ht; subst ht; rfl, rfl⟩
      · refine ⟨rfl, Flag.pure (fun _ _ _ h => h) fun d c w' hd hdeps hcl hS => ?_⟩
        skip
        clear hS hdeps hcl hd
        unfold Oper.wp
        go_simp
        exact ⟨rfl, fun t ht => by injection ht with ht; subst ht; rfl, rfl⟩
      · refine ⟨rfl, Flag.pure (fun _ _ _ h => h) fun d c w' hd hdeps hcl hS => ?_⟩
        have s0 := (hS.1.cell (p := ⟨bv, ov + 1, none⟩) hbv).trans C1.out
        clear hS hdeps hcl hd
        unfold Oper.wp
        go_simp
        exact ⟨rfl, fun t ht => by injection ht with ht; subst ht; rfl, rfl⟩
      · refine ⟨rfl, fun d s w' hd hdeps hcl hS => ?_⟩
        have d9 := hcl.down (k := 9) (j := 5) rfl (by kernel_rfl) hd
        have HS := Lib.hid hS.1
        clear hS hdeps hcl
        unfold Oper.wp
        go_simp
        have hbw := Hb1.out.trans (HS.out.mono hz1)
        refine (l03Reach_any A' N c' E A n c ms y true true w' (Rd.more (Rd.below Hr.out HS.out) HS.out.size) HN.out (Rd.more (Rd.below Hx.out hbw) hbw.size) Hn.out hlen hn6' HE.out.mnd HE.out.mem HE.out.G hyl).mono ?_
        rintro e w2 ⟨q, rfl, hql, hB, hb2⟩
        refine FlagPost.two2 q 28 (.slice (some ⟨q, 0, none⟩) N N) 9 _ 32 (.pointer (some ⟨q, x, none⟩)) rfl rfl rfl ?_ rfl rfl rfl (by decide) d9
        exact ⟨HS.out.trans (hb2.mono HS.out.size), fun _ => hB⟩
      · refine ⟨rfl, Flag.pure (fun _ _ _ h => h) fun d c w' hd hdeps hcl hS => ?_⟩
        skip
        clear hS hdeps hcl hd
        unfold Oper.wp
        go_simp
        exact ⟨rfl, fun t ht => by injection ht with ht; subst ht; rfl, rfl⟩
      · refine ⟨rfl, Flag.pure (fun _ _ _ h => h) fun d c w' hd hdeps hcl hS => ?_⟩
        skip
        clear hS hdeps hcl hd
        unfold Oper.wp
        go_simp
        exact ⟨rfl, fun t ht => by injection ht with ht; subst ht; rfl, rfl⟩
      · refine ⟨rfl, Flag.pure (fun _ _ _ h => h) fun d c w' hd hdeps hcl hS => ?_⟩
        have s0 := (hS.1.cell (p := ⟨bv, ov, none⟩) hbv).trans C0.out
        clear hS hdeps hcl hd
        unfold Oper.wp
        go_simp
        exact ⟨rfl, fun t ht => by injection ht with ht; subst ht; rfl, rfl⟩
      · refine ⟨rfl, Flag.pure (fun _ _ _ h => h) fun d c w' hd hdeps hcl hS => ?_⟩
        skip
        clear hS hdeps hcl hd
        unfold Oper.wp
        go_simp
        exact ⟨rfl, fun t ht => by injection ht with ht; subst ht; rfl, rfl⟩
      · refine ⟨rfl, Flag.pure (fun _ _ _ h => h) fun d c w' hd hdeps hcl hS => ?_⟩
        have d9 := hdeps 9 (by kernel_rfl)
        have d5 := hcl.up (k := 9) (j := 5) rfl (by kernel_rfl) d9
        have s0 := (hS.2 d5).cell hxl
        rw [Ht.out] at s0
        clear d9 d5
        clear hS hdeps hcl hd
        unfold Oper.wp
        go_simp
        exact ⟨rfl, fun t ht => by injection ht with ht; subst ht; rfl, rfl⟩
      · refine ⟨rfl, Flag.pure (fun _ _ _ h => h) fun d c w' hd hdeps hcl hS => ?_⟩
        skip
        clear hS hdeps hcl hd
        unfold Oper.wp
        go_simp
        exact ⟨rfl, fun t ht => by injection ht with ht; subst ht; rfl, rfl⟩
      · refine ⟨rfl, Flag.pure (fun _ _ _ h => h) fun d c w' hd hdeps hcl hS => ?_⟩
        skip
        clear hS hdeps hcl hd
        unfold Oper.wp
        go_simp
        exact ⟨rfl, fun t ht => by injection ht with ht; subst ht; rfl, rfl⟩
    case hQ =>
      intro fl s we hall hS
      have Hbe := Lib.hid (Hbb.out.trans ((Hb1.out.trans (hS.1.mono hz1)).mono Hbb.out.size))
      clear hall hS
      go_wp2_with fail
      go_ret2
      exact ⟨by rw [Hc.out] <;> rfl, Hbe.out⟩
  · have hR : iuR ms f g = false := by unfold iuR; rw [decide_eq_false hc]; rfl
    have HR := Lib.hid hR
    have hne : (monC ms [f, g] != 0) = true := by simpa using hc
    clear hR hc
    go_enter Tryz.func60, Tryz.ntmps60
    go_wp2_with fail
    rw [← Hwb.out]
    refine (l03Given_any A (some ⟨w.heap.size + 2, 0, none⟩) n c 2 2 ms [f, g] wb Hx.out H7.out Hn.out rfl hb (by decide)).mono ?_
    rintro e w1 ⟨A', c', v, rfl, hr, hv, hb1⟩
    have Hb2 := Lib.hid (Hbb.out.trans (hb1.mono Hbb.out.size))
    obtain ⟨Av, cv, hvv, _⟩ := hv.form
    clear hr hb1 hv
    subst hvv
    go_wp2
    go_ret2
    exact ⟨by rw [HR.out] <;> rfl, Hb2.out⟩
set_option maxHeartbeats 1000000 in
theorem ImplIsUnder_any (A : Option Addr) (n c : Nat) (ms : List M) (f g : M) (w : World) (hx : RdM w w.heap.size A ms) (hn : ms.length = n) (hA : A = none → n = 0 ∧ c = 0) (hb : n < 536870912) :
    Calls Tryz.prog 59 #[.slice A n c, .agg (mc f), .agg (mc g)] w fun e w' => e = .returned (.tuple #[.bool (iuR ms f g), I (monC ms [f, g])]) ∧ Below w.heap.size w w' := by
  obtain ⟨wb, hwb⟩ : ∃ wb, wb = ((w.alloc (.cells (mc f) 31)).alloc (.cells (mc g) 31)).alloc (.cells #[I f.p, I f.t0, I f.t1, I f.t2, I f.t3, I f.t4, I g.p, I g.t0, I g.t1, I g.t2, I g.t3, I g.t4] 31) := ⟨_, rfl⟩
  have hbb : Below w.heap.size w wb := by rw [hwb]; exact (((Below.refl _ _).alloc (Nat.le_refl _) _).alloc (by simp) _).alloc (by simp; omega) _
  have h7 : RdM wb wb.heap.size (some ⟨w.heap.size + 2, 0, none⟩) [f, g] := by rw [hwb]; exact rd_two (Blk.new' _ _ _ (by simp))
  have Hx := Lib.hid (Rd.more (Rd.below hx hbb) hbb.size)
  have Hn := Lib.hid hn
  have HA := Lib.hid hA
  have H7 := Lib.hid h7
  have Hbb := Lib.hid hbb
  have Hwb := Lib.hid hwb
  clear hx hn hA h7 hbb hwb
  by_cases hc : monC ms [f, g] = 0
  · obtain ⟨E, ps, hE, hin⟩ := monC_el hc
    have hfE := hin f (by simp)
    have hgE := hin g (by simp)
    have hR : iuR ms f g = decide (JJ E g f) := by unfold iuR; rw [decide_eq_true hc, Bool.true_and, hE.r]
    have hlen := hE.len
    have hn6 := hE.n6
    obtain ⟨x, hxx⟩ : ∃ x, x = ix E f := ⟨_, rfl⟩
    obtain ⟨y, hyy⟩ : ∃ y, y = ix E g := ⟨_, rfl⟩
    have hxl : x < E.length := by rw [hxx]; exact ix_lt hfE
    have hyl : y < E.length := by rw [hyy]; exact ix_lt hgE
    obtain ⟨t, ht⟩ : ∃ t, t = iuR ms f g := ⟨_, rfl⟩
    have Ht : Hid (jSet E y x = t) := by
      show _ = _
      unfold jSet
      rw [ht, hR, decide_eq_true hxl, Bool.true_and, hxx, hyy, gm_ix hfE, gm_ix hgE]
    have Hxx := Lib.hid hxx
    have Hyy := Lib.hid hyy
    obtain ⟨N, hN⟩ : ∃ N, E.length = N := ⟨_, rfl⟩
    rw [hN] at hlen hxl hyl
    have HN := Lib.hid hN
    have HE := Lib.hid hE
    have Hc := Lib.hid hc
    have hxz : (x : Int) < (N : Int) := by omega
    have hn6' : n ≤ 6 := by rw [← Hn.out]; exact hn6
    rw [← ht]
    have hx3 : x < 320 := by omega
    clear hE hc hR hin hxx hyy ht hN hfE hgE hn6
    go_enter Tryz.func59, Tryz.ntmps59
    go_wp2_with fail
    rw [← Hwb.out]
    refine (monoidOf_any A (some ⟨w.heap.size + 2, 0, none⟩) n c 2 2 ms [f, g] wb Hx.out H7.out Hn.out rfl HA.out (fun h => (by cases h)) (by omega)).mono ?_
    rintro e w1 ⟨r, v, rfl, hb1, hr0, hs⟩
    obtain ⟨g0, rfl, hM, hv⟩ := hs ps HE.out.clo Hc.out
    rw [← HE.out.eq] at hM hv
    simp only [List.map_cons, List.map_nil] at hv
    rw [← Hxx.out, ← Hyy.out] at hv
    rw [Hc.out]
    obtain ⟨Av, cv, hvv, hrv⟩ := hv.form
    subst hvv
    obtain ⟨bv, ov, e, hbv, c0⟩ := RdI.at_ hrv (k := 0) (by simp)
    subst e
    obtain ⟨bv', ov', e, _, c1⟩ := RdI.at_ hrv (k := 1) (by simp)
    injection e with e
    injection e with e1 e2 _
    subst e1 e2
    rw [Nat.add_zero] at c0
    have C0 : Hid (w1.cell? ⟨bv, ov, none⟩ = some (I x)) := c0
    have C1 : Hid (w1.cell? ⟨bv, ov + 1, none⟩ = some (I y)) := c1
    have HM := Lib.hid hM
    have Hb1 := Lib.hid hb1
    have hz1 := hb1.size
    clear hM hs hr0 hv hrv hb1 c0 c1
    simp only [List.length_cons, List.length_nil, Nat.zero_add]
    go_wp2_with fail
    refine wp_region_flags [] rfl (by kernel_rfl) (by kernel_rfl) [] (by kernel_rfl) _
      (fun s : Nat × Nat => [.pointer (some ⟨g0, 0, none⟩), .pointer (some ⟨s.1, 0, none⟩), .pointer (some ⟨s.1, 0, none⟩), .pointer (some ⟨s.1, 2, none⟩), .slice (some ⟨s.2, 0, none⟩) N N, .slice (some ⟨bv, ov, none⟩) 2 cv, .pointer (some ⟨bv, ov + 1, none⟩), I y, .pointer (some ⟨s.2, y * 5, none⟩), .slice (some ⟨bv, ov, none⟩) 2 cv, .pointer (some ⟨bv, ov, none⟩), I x, .bool t, .bool t, I 0])
      (by intro s; simp only [putAll, List.setIfInBounds_toArray, List.set_cons_succ, List.set_cons_zero]; rfl)
      [] rfl _
      (by intro s; simp only [setAll, List.setIfInBounds_toArray, List.set_cons_succ, List.set_cons_zero]; rfl) (by kernel_rfl)
      (fun d s w' => Below w1.heap.size w1 w' ∧ (d 1 = true → ∃ gl gr, Ide w' s.1 N gl gr s.2 (lSet E) (rSet E) (jSet E)))
      (0, 0) ⟨(Below.refl _ _).drew, by simp⟩ ?hop ?hQ
    case hop =>
      refine ⟨?_, ?_, ?_, ?_, ?_, ?_, ?_, ?_, ?_, ?_, ?_, ?_, ?_, ?_, ?_, trivial⟩
      · refine ⟨rfl, Flag.pure (fun _ _ _ h => h) fun d c w' hd hdeps hcl hS => ?_⟩
        skip
        clear hS hdeps hcl hd
        unfold Oper.wp
        go_simp
        exact ⟨rfl, fun t ht => by injection ht with ht; subst ht; rfl, rfl⟩
      · refine ⟨rfl, fun d s w' hd hdeps hcl hS => ?_⟩
        have d2 := hcl.down (k := 2) (j := 1) rfl (by kernel_rfl) hd
        have d3 := hcl.down (k := 3) (j := 2) rfl (by kernel_rfl) d2
        have d4 := hcl.down (k := 4) (j := 3) rfl (by kernel_rfl) d3
        have d8 := hcl.down (k := 8) (j := 4) rfl (by kernel_rfl) d4
        have HS := Lib.hid hS.1
        clear hS hdeps hcl
        unfold Oper.wp
        go_simp
        refine (ideals_any w' ((HM.out.below HS.out (Nat.le_refl _))) (by rw [HN.out]; exact hlen) HE.out.mnd).mono ?_
        rintro e w2 ⟨q, rfl, ⟨gl, gr, gb, hI⟩, hb2⟩
        rw [HN.out] at hI
        refine ⟨(q, gb), [(24, .pointer (some ⟨q, 0, none⟩)), (25, .pointer (some ⟨q, 0, none⟩)), (26, .pointer (some ⟨q, 2, none⟩)), (27, .slice (some ⟨gb, 0, none⟩) N N), (31, .pointer (some ⟨gb, y * 5, none⟩))], ⟨rfl, fun t ht => by injection ht with ht; subst ht; rfl⟩, ⟨HS.out.trans (hb2.mono HS.out.size), fun _ => ⟨gl, gr, hI⟩⟩, rfl, fun p hp => ?_⟩
        simp only [List.mem_cons, List.not_mem_nil, or_false] at hp
        rcases hp with rfl | rfl | rfl | rfl | rfl
        · exact .inl rfl
        · exact .inr ⟨2, _, rfl, rfl, by decide, d2⟩
        · exact .inr ⟨3, _, rfl, rfl, by decide, d3⟩
        · exact .inr ⟨4, _, rfl, rfl, by decide, d4⟩
        · exact .inr ⟨8, _, rfl, rfl, by decide, d8⟩
      · refine ⟨rfl, Flag.pure (fun _ _ _ h => h) fun d c w' hd hdeps hcl hS => ?_⟩
        skip
        clear hS hdeps hcl hd
        unfold Oper.wp
        go_simp
        exact ⟨rfl, fun t ht => by injection ht with ht; subst ht; rfl, rfl⟩
      · refine ⟨rfl, Flag.pure (fun _ _ _ h => h) fun d c w' hd hdeps hcl hS => ?_⟩
        skip
        clear hS hdeps hcl hd
        unfold Oper.wp
        go_simp
        exact ⟨rfl, fun t ht => by injection ht with ht; subst ht; rfl, rfl⟩
      · refine ⟨rfl, Flag.pure (fun _ _ _ h => h) fun d c w' hd hdeps hcl hS => ?_⟩
        have d3 := hdeps 3 (by kernel_rfl)
        have d2 := hcl.up (k := 3) (j := 2) rfl (by kernel_rfl) d3
        have d1 := hcl.up (k := 2) (j := 1) rfl (by kernel_rfl) d2
        obtain ⟨gl, gr, hI⟩ := hS.2 d1
        have s0 := hI.c2
        clear d3 d2 d1 hI
        clear hS hdeps hcl hd
        unfold Oper.wp
        go_simp
        exact ⟨rfl, fun t ht => by injection ht with ht; subst ht; rfl, rfl⟩
      · refine ⟨rfl, Flag.pure (fun _ _ _ h => h) fun d c w' hd hdeps hcl hS => ?_⟩
        skip
        clear hS hdeps hcl hd
        unfold Oper.wp
        go_simp
        exact ⟨rfl, fun t ht => by injection ht with ht; subst ht; rfl, rfl⟩
      · refine ⟨rfl, Flag.pure (fun _ _ _ h => h) fun d c w' hd hdeps hcl hS => ?_⟩
        skip
        clear hS hdeps hcl hd
        unfold Oper.wp
        go_simp
        exact ⟨rfl, fun t ht => by injection ht with ht; subst ht; rfl, rfl⟩
      · refine ⟨rfl, Flag.pure (fun _ _ _ h => h) fun d c w' hd hdeps hcl hS => ?_⟩
        have s0 := (hS.1.cell (p := ⟨bv, ov + 1, none⟩) hbv).trans C1.out
        clear hS hdeps hcl hd
        unfold Oper.wp
        go_simp
        exact ⟨rfl, fun t ht => by injection ht with ht; subst ht; rfl, rfl⟩
      · refine ⟨rfl, Flag.pure (fun _ _ _ h => h) fun d c w' hd hdeps hcl hS => ?_⟩
        skip
        clear hS hdeps hcl hd
        unfold Oper.wp
        go_simp
        exact ⟨rfl, fun t ht => by injection ht with ht; subst ht; rfl, rfl⟩
      · refine ⟨rfl, Flag.pure (fun _ _ _ h => h) fun d c w' hd hdeps hcl hS => ?_⟩
        skip
        clear hS hdeps hcl hd
        unfold Oper.wp
        go_simp
        exact ⟨rfl, fun t ht => by injection ht with ht; subst ht; rfl, rfl⟩
      · refine ⟨rfl, Flag.pure (fun _ _ _ h => h) fun d c w' hd hdeps hcl hS => ?_⟩
        skip
        clear hS hdeps hcl hd
        unfold Oper.wp
        go_simp
        exact ⟨rfl, fun t ht => by injection ht with ht; subst ht; rfl, rfl⟩
      · refine ⟨rfl, Flag.pure (fun _ _ _ h => h) fun d c w' hd hdeps hcl hS => ?_⟩
        have s0 := (hS.1.cell (p := ⟨bv, ov, none⟩) hbv).trans C0.out
        clear hS hdeps hcl hd
        unfold Oper.wp
        go_simp
        exact ⟨rfl, fun t ht => by injection ht with ht; subst ht; rfl, rfl⟩
      · refine ⟨rfl, Flag.pure (fun _ _ _ h => h) fun d s w' hd hdeps hcl hS => ?_⟩
        have d8 := hdeps 8 (by kernel_rfl)
        have d4 := hcl.up (k := 8) (j := 4) rfl (by kernel_rfl) d8
        have d3 := hcl.up (k := 4) (j := 3) rfl (by kernel_rfl) d4
        have d2 := hcl.up (k := 3) (j := 2) rfl (by kernel_rfl) d3
        have d1 := hcl.up (k := 2) (j := 1) rfl (by kernel_rfl) d2
        obtain ⟨gl, gr, hI⟩ := hS.2 d1
        have HI := Lib.hid hI
        clear hS hdeps hcl hd hI
        unfold Oper.wp
        go_simp
        refine (has_any w' HI.out.b hyl hx3).mono ?_
        rintro e w2 ⟨rfl, rfl⟩
        rw [Ht.out]
        exact ⟨rfl, fun t ht => by injection ht with ht; subst ht; rfl, rfl⟩
      · refine ⟨rfl, Flag.pure (fun _ _ _ h => h) fun d c w' hd hdeps hcl hS => ?_⟩
        skip
        clear hS hdeps hcl hd
        unfold Oper.wp
        go_simp
        exact ⟨rfl, fun t ht => by injection ht with ht; subst ht; rfl, rfl⟩
      · refine ⟨rfl, Flag.pure (fun _ _ _ h => h) fun d c w' hd hdeps hcl hS => ?_⟩
        skip
        clear hS hdeps hcl hd
        unfold Oper.wp
        go_simp
        exact ⟨rfl, fun t ht => by injection ht with ht; subst ht; rfl, rfl⟩
    case hQ =>
      intro fl s we hall hS
      have Hbe := Lib.hid (Hbb.out.trans ((Hb1.out.trans (hS.1.mono hz1)).mono Hbb.out.size))
      clear hall hS
      go_wp2_with fail
      go_ret2
      exact ⟨by rw [Hc.out] <;> rfl, Hbe.out⟩
  · have hR : iuR ms f g = false := by unfold iuR; rw [decide_eq_false hc]; rfl
    have HR := Lib.hid hR
    have hne : (monC ms [f, g] != 0) = true := by simpa using hc
    clear hR hc
    go_enter Tryz.func59, Tryz.ntmps59
    go_wp2_with fail
    rw [← Hwb.out]
    refine (monoidOf_any A (some ⟨w.heap.size + 2, 0, none⟩) n c 2 2 ms [f, g] wb Hx.out H7.out Hn.out rfl HA.out (fun h => (by cases h)) (by omega)).mono ?_
    rintro e w1 ⟨r, v, rfl, hb1, hr0, hs⟩
    have Hb2 := Lib.hid (Hbb.out.trans (hb1.mono Hbb.out.size))
    have hrn := (hr0 (by simpa using hne)).1
    subst hrn
    clear hb1 hr0 hs
    go_wp2
    go_ret2
    exact ⟨by rw [HR.out] <;> rfl, Hb2.out⟩
set_option maxRecDepth 100000
set_option linter.unusedSimpArgs false
set_option linter.unusedVariables false
def irgB (E : List M) (x i : Nat) : Bool := sameK E 3 i x && isIdem (gm E i)
def irgR (ms : List M) (f : M) : Bool := decide (monC ms [f] = 0) && (List.range (elR ms [f]).length).any (irgB (elR ms [f]) (ix (elR ms [f]) f))
theorem irgB_eq (E : List M) (x i : Nat) : irgB E x i = (decide (Rel E true true (gm E x) (gm E i)) && isIdem (gm E i) && decide (Rel E true true (gm E i) (gm E x))) := by
  unfold irgB
  rw [← bothB_J]
  unfold bothB relB
  cases decide (Rel E true true (gm E i) (gm E x)) <;> cases decide (Rel E true true (gm E x) (gm E i)) <;> cases isIdem (gm E i) <;> rfl
theorem any_at {N q : Nat} {p : Nat → Bool} (hq : q < N) (h : p q = true) : (List.range N).any p = true := any_iff.2 ⟨q, hq, h⟩
theorem any_no {N : Nat} {p : Nat → Bool} (h : ∀ j, j < N → p j = false) : (List.range N).any p = false := by
  rw [← Bool.not_eq_true, any_iff]
  rintro ⟨j, hj, e⟩
  rw [h j hj] at e; cases e
set_option maxHeartbeats 2000000 in
theorem SpecIsRegular_any (A : Option Addr) (n c : Nat) (ms : List M) (f : M) (w : World) (hx : RdM w w.heap.size A ms) (hn : ms.length = n) (hb : n < 1073741824) :
    Calls Tryz.prog 55 #[.slice A n c, .agg (mc f)] w fun e w' => e = .returned (.tuple #[.bool (irgR ms f), I (monC ms [f])]) ∧ Below w.heap.size w w' := by
  obtain ⟨wb, hwb⟩ : ∃ wb, wb = (w.alloc (.cells (mc f) 31)).alloc (.cells (mc f) 31) := ⟨_, rfl⟩
  have hbb : Below w.heap.size w wb := by rw [hwb]; exact ((Below.refl _ _).alloc (Nat.le_refl _) _).alloc (by simp) _
  have h7 : RdM wb wb.heap.size (some ⟨w.heap.size + 1, 0, none⟩) [f] := by rw [hwb]; exact rd_one (Blk.six (Blk.new' _ _ _ (by simp)))
  have Hx := Lib.hid (Rd.more (Rd.below hx hbb) hbb.size)
  have Hn := Lib.hid hn
  have H7 := Lib.hid h7
  have Hbb := Lib.hid hbb
  have Hwb := Lib.hid hwb
  clear hx hn h7 hbb hwb
  by_cases hc : monC ms [f] = 0
  · obtain ⟨E, ps, hE, hin⟩ := monC_el hc
    have hfE := hin f (by simp)
    have hR : irgR ms f = (List.range E.length).any (irgB E (ix E f)) := by unfold irgR; rw [decide_eq_true hc, Bool.true_and, hE.r]
    have hG : gR ms [f] = E := by unfold gR; rw [if_pos hc, hE.r]
    have hNN : gN ms [f] = [(ix E f : Int)] := by unfold gN; rw [if_pos hc, hE.r]; rfl
    have hlen := hE.len
    have hn6 := hE.n6
    obtain ⟨x, hxx⟩ : ∃ x, x = ix E f := ⟨_, rfl⟩
    have hxl : x < E.length := by rw [hxx]; exact ix_lt hfE
    rw [← hxx] at hNN hR
    obtain ⟨N, hN⟩ : ∃ N, E.length = N := ⟨_, rfl⟩
    rw [hN] at hlen hxl hR
    have HN := Lib.hid hN
    have HE := Lib.hid hE
    have Hc := Lib.hid hc
    have HG := Lib.hid hG
    have HNN := Lib.hid hNN
    have HR := Lib.hid hR
    have hxz : (x : Int) < (N : Int) := by omega
    have hn6' : n ≤ 6 := by rw [← Hn.out]; exact hn6
    have HEv : Hid (∀ i, i < N → Valid (gm E i)) := fun i hi => (HE.out.mnd.ok _ (gm_mem (by rw [HN.out]; exact hi))).1
    clear hE hc hR hin hG hNN hxx hN hfE hn6
    go_enter Tryz.func55, Tryz.ntmps55
    go_wp2_with fail
    rw [← Hwb.out]
    refine (l03Given_any A (some ⟨w.heap.size + 1, 0, none⟩) n c 1 1 ms [f] wb Hx.out H7.out Hn.out rfl hb (by decide)).mono ?_
    rintro e w1 ⟨A', c', v, rfl, hr, hv, hb1⟩
    rw [HG.out] at hr ⊢
    rw [HNN.out] at hv
    rw [Hc.out, HN.out]
    obtain ⟨Av, cv, hvv, hrv⟩ := hv.form
    subst hvv
    obtain ⟨bv, ov, e, hbv, c0⟩ := RdI.at_ hrv (k := 0) (by simp)
    subst e
    rw [Nat.add_zero] at c0
    have c1 : w1.cell? ⟨bv, ov, none⟩ = some (I x) := c0
    obtain ⟨b, off, rfl, hbE, _⟩ := RdM.at_ hr (k := x) (by rw [HN.out]; exact hxl)
    have Hr := Lib.hid hr
    have Hb1 := Lib.hid hb1
    have hz1 := hb1.size
    simp only [List.length_cons, List.length_nil, Nat.zero_add]
    clear hr hv hrv hb1 c0
    go_wp2_with fail
    have hbw := Hb1.out
    refine (l03Reach_any (some ⟨b, off, none⟩) N c' E A n c ms x true true w1 Hr.out HN.out (Rd.more (Rd.below Hx.out hbw) hbw.size) Hn.out hlen hn6' HE.out.mnd HE.out.mem HE.out.G hxl).mono ?_
    rintro e w2 ⟨gq, rfl, hgq, hB, hb2⟩
    have HB := Lib.hid hB
    have Hb2 := Lib.hid (Hb1.out.trans (hb2.mono hz1))
    have Hr2 := Lib.hid (Rd.more (Rd.below Hr.out hb2) hb2.size)
    have hgl := hB.lt
    have hz2 : wb.heap.size ≤ w2.heap.size := Hb2.out.size
    clear hb2 hbw hB c1
    go_wp2_with fail
    go_loopw [11] (fun i wr => ∃ q : Nat, i = .int .i64 q ∧ q ≤ N ∧ Below w2.heap.size w2 wr ∧ ∀ j, j < q → irgB E x j = false) (fun i _ => N - (intOf i).toNat)
    case atStart => exact ⟨0, rfl, by omega, Below.refl _ _, fun j hj => by omega⟩
    case round =>
      obtain ⟨q, rfl, hq, hb', hno⟩ := hrel
      have Hb := Lib.hid hb'
      have Hno := Lib.hid hno
      have hsz := hb'.size
      clear hb' hno
      by_cases hqN : q < N
      · have hqz : (q : Int) < (N : Int) := by omega
        have e0 := (HB.out.below Hb.out hgl).cell hqN
        obtain ⟨o, ho⟩ : ∃ o, o = decide (Rel E true true (gm E x) (gm E q)) := ⟨_, rfl⟩
        rw [← ho] at e0
        have hirg := irgB_eq E x q
        rw [← ho] at hirg
        have hv := HEv.out q hqN
        obtain ⟨z, hz⟩ : ∃ z, z = gm E q := ⟨_, rfl⟩
        have H6 := (RdM.six (Rd.more (Rd.below Hr2.out Hb.out) hsz) (k := q) (by rw [HN.out]; exact hqN)).1
        rw [← hz] at H6 hv hirg
        have Hirg := Lib.hid hirg
        have Hz := Lib.hid hz
        clear ho hirg hz
        cases o
        · have Hno2 : Hid (∀ j, j < q + 1 → irgB E x j = false) := fun j hj => by
            by_cases e : j = q
            · rw [e, Hirg.out]; rfl
            · exact Hno.out j (by omega)
          clear H6
          go_wp2_with fail
          go_roundw
          case rel => exact ⟨q + 1, by go_num, by omega, Hb.out, Hno2.out⟩
          case measure => simp [intOf]; omega
        · obtain ⟨x0, x1, x2, x3, x4, x5⟩ := H6
          go_wp2_with fail
          refine (l01Idem_any z wr hv).mono ?_
          rintro e w3 ⟨rfl, hb3⟩
          have Hb3 := Lib.hid (Hb.out.trans (hb3.mono hsz))
          have hz3 := hb3.size
          clear hb3 x0 x1 x2 x3 x4 x5 e0
          cases hid : isIdem z
          · have Hno2 : Hid (∀ j, j < q + 1 → irgB E x j = false) := fun j hj => by
              by_cases e : j = q
              · rw [e, Hirg.out, hid]; rfl
              · exact Hno.out j (by omega)
            clear hid
            go_wp2_with fail
            go_roundw
            case rel => exact ⟨q + 1, by go_num, by omega, Hb3.out, Hno2.out⟩
            case measure => simp [intOf]; omega
          · have Hid' := Lib.hid hid
            clear hid
            go_wp2_with fail
            have hbx := Hb2.out.trans (Hb3.out.mono hz2)
            refine (l03Reach_any (some ⟨b, off, none⟩) N c' E A n c ms q true true w3 (Rd.more (Rd.below Hr2.out Hb3.out) Hb3.out.size) HN.out (Rd.more (Rd.below Hx.out hbx) hbx.size) Hn.out hlen hn6' HE.out.mnd HE.out.mem HE.out.G hqN).mono ?_
            rintro e w4 ⟨g4, rfl, hg4, hB4, hb4⟩
            have e4 := hB4.cell hxl
            obtain ⟨t, ht⟩ : ∃ t, t = decide (Rel E true true (gm E q) (gm E x)) := ⟨_, rfl⟩
            rw [← ht] at e4
            have Hi2 : Hid (irgB E x q = t) := by show _ = _; rw [Hirg.out, Hid'.out, Hz.out, ← ht]; rfl
            have Hb4 := Lib.hid (Hb3.out.trans (hb4.mono Hb3.out.size))
            have Hbe := Lib.hid (Hbb.out.trans ((Hb2.out.trans (Hb4.out.mono hz2)).mono Hbb.out.size))
            clear hB4 hb4 hbx ht
            cases t
            · have Hno2 : Hid (∀ j, j < q + 1 → irgB E x j = false) := fun j hj => by
                by_cases e : j = q
                · rw [e, Hi2.out]
                · exact Hno.out j (by omega)
              go_wp2_with fail
              go_roundw
              case rel => exact ⟨q + 1, by go_num, by omega, Hb4.out, Hno2.out⟩
              case measure => simp [intOf]; omega
            · have HR2 : Hid (irgR ms f = true) := by show _ = _; rw [HR.out]; exact any_at hqN Hi2.out
              go_wp2_with fail
              go_ret2
              exact ⟨by rw [HR2.out, Hc.out] <;> rfl, Hbe.out⟩
      · obtain rfl : q = N := by omega
        have hqz : ¬ ((q : Int) < (q : Int)) := by omega
        have HR2 : Hid (irgR ms f = false) := by show _ = _; rw [HR.out]; exact any_no Hno.out
        have Hbe := Lib.hid (Hbb.out.trans ((Hb2.out.trans (Hb.out.mono hz2)).mono Hbb.out.size))
        go_wp2_with fail
        go_ret2
        exact ⟨by rw [HR2.out, Hc.out] <;> rfl, Hbe.out⟩
  · have hR : irgR ms f = false := by unfold irgR; rw [decide_eq_false hc]; rfl
    have HR := Lib.hid hR
    have hne : (monC ms [f] != 0) = true := by simpa using hc
    clear hR hc
    go_enter Tryz.func55, Tryz.ntmps55
    go_wp2_with fail
    rw [← Hwb.out]
    refine (l03Given_any A (some ⟨w.heap.size + 1, 0, none⟩) n c 1 1 ms [f] wb Hx.out H7.out Hn.out rfl hb (by decide)).mono ?_
    rintro e w1 ⟨A', c', v, rfl, hr, hv, hb1⟩
    have Hb2 := Lib.hid (Hbb.out.trans (hb1.mono Hbb.out.size))
    obtain ⟨Av, cv, hvv, _⟩ := hv.form
    clear hr hb1 hv
    subst hvv
    go_wp2
    go_ret2
    exact ⟨by rw [HR.out] <;> rfl, Hb2.out⟩
set_option maxRecDepth 100000
set_option linter.unusedSimpArgs false
set_option linter.unusedVariables false
theorem sameK_comm (E : List M) (kind : Int) (i k : Nat) : sameK E kind i k = sameK E kind k i := by
  rw [Bool.eq_iff_iff]; exact ⟨sameK_symm kind, sameK_symm kind⟩
set_option maxHeartbeats 1000000 in
theorem irg1_any {n : Int} {B g d b1 b2 b3 bv ov cv x i : Nat} {E : List M} {us : List (List Int)} (w : World) (h : MonAt n B g E us w) (hI : IdeAt w d E) (hE : E.length ≤ 300) (hm : Mnd n E) (hi : i < E.length) (hx : x < E.length)
    (C1 : w.cell? ⟨b1, 0, none⟩ = some (.pointer (some ⟨d, 0, none⟩))) (C2 : w.cell? ⟨b2, 0, none⟩ = some (.slice (some ⟨bv, ov, none⟩) 1 cv)) (C3 : w.cell? ⟨b3, 0, none⟩ = some (.pointer (some ⟨g, 0, none⟩))) (C4 : w.cell? ⟨bv, ov, none⟩ = some (I x)) :
    Calls Tryz.prog 168 #[I i, .pointer (some ⟨b1, 0, none⟩), .pointer (some ⟨b2, 0, none⟩), .pointer (some ⟨b3, 0, none⟩)] w fun e w' => e = .returned (.bool (irgB E x i)) ∧ Below w.heap.size w w' := by
  obtain ⟨_, ev, wv, pl, vs, hM, hP, hO, _⟩ := h
  obtain ⟨gE, cE, rfl⟩ := hO.some_ (by omega)
  have C5 := hM.c0
  have hv := (hm.ok _ (gm_mem hi)).1
  obtain ⟨b', off', e, hgE, h6⟩ := RdM.at_ hO.rd (k := i) hi
  injection e with e
  injection e with e1 e2 _
  subst e1 e2
  rw [Nat.zero_add] at h6
  obtain ⟨z, hz⟩ : ∃ z, z = gm E i := ⟨_, rfl⟩
  rw [← hz] at h6 hv
  have l1 := World.block_lt_of_cell? w ⟨b1, 0, none⟩ C1
  have l2 := World.block_lt_of_cell? w ⟨b2, 0, none⟩ C2
  have l3 := World.block_lt_of_cell? w ⟨b3, 0, none⟩ C3
  have l4 := World.block_lt_of_cell? w ⟨bv, ov, none⟩ C4
  have l5 := World.block_lt_of_cell? w ⟨g, 0, none⟩ C5
  obtain ⟨s, hs⟩ : ∃ s, s = sameK E 3 x i := ⟨_, rfl⟩
  have Hs : Hid (sameK E 3 i x = s) := by show _ = _; rw [sameK_comm, hs]
  have hR : irgB E x i = (s && isIdem z) := by unfold irgB; first | rw [← hs, ← hz] | rw [sameK_comm, ← hs, ← hz]
  have HR := Lib.hid hR
  have D1 := Lib.hid C1
  have D2 := Lib.hid C2
  have D3 := Lib.hid C3
  have D4 := Lib.hid C4
  have D5 := Lib.hid C5
  have H6 := Lib.hid h6
  have HI := Lib.hid hI
  have iz : (i : Int) < (E.length : Int) := by omega
  clear hM hP hO hs hz hR hI C1 C2 C3 C4 C5 h6
  cases s
  · go_enter Tryz.func168, Tryz.ntmps168
    go_wp2_with fail
    refine wp_region_same [] rfl (by kernel_rfl) (by kernel_rfl) (by kernel_rfl) (fun w' => Below w.heap.size w w') _
      [.pointer (some ⟨d, 0, none⟩), I i, .slice (some ⟨bv, ov, none⟩) 1 cv, .pointer (some ⟨bv, ov, none⟩), I x, .bool false, .bool false, undef, undef, undef, undef, undef, undef, undef, undef, .bool false, .bool false]
      (by simp only [putAll, List.setIfInBounds_toArray, List.set_cons_succ, List.set_cons_zero]; rfl) (Below.refl _ _).drew ?hop ?hQ
    case hop =>
      refine FixBL.toL (fun w' w'' hS hb => hS.trans (hb.mono hS.size)) _ _ ?_
      refine ⟨.inr ?_, .inr ?_, .inr ?_, .inr ?_, .inr ?_, .inr ?_, .inr ?_, .inr ?_, .inr ?_, .inr ?_, .inr ?_, .inr ?_, .inr ?_, .inr ?_, .inr ?_, .inr ?_, .inr ?_, trivial⟩
      · (with_reducible refine FixB.of ?_ ?_; rfl; intro w' hS; have s0 := (hS.cell (p := ⟨b1, 0, none⟩) l1).trans D1.out; have s1 := (hS.cell (p := ⟨b2, 0, none⟩) l2).trans D2.out; have s2 := (hS.cell (p := ⟨bv, ov, none⟩) l4).trans D4.out; clear hS; unfold Oper.wp; go_simp; first | done | exact Below.refl _ _)
      · (with_reducible refine FixB.of ?_ ?_; rfl; intro w' hS; have s0 := (hS.cell (p := ⟨b1, 0, none⟩) l1).trans D1.out; have s1 := (hS.cell (p := ⟨b2, 0, none⟩) l2).trans D2.out; have s2 := (hS.cell (p := ⟨bv, ov, none⟩) l4).trans D4.out; clear hS; unfold Oper.wp; go_simp; first | done | exact Below.refl _ _)
      · (with_reducible refine FixB.of ?_ ?_; rfl; intro w' hS; have s0 := (hS.cell (p := ⟨b1, 0, none⟩) l1).trans D1.out; have s1 := (hS.cell (p := ⟨b2, 0, none⟩) l2).trans D2.out; have s2 := (hS.cell (p := ⟨bv, ov, none⟩) l4).trans D4.out; clear hS; unfold Oper.wp; go_simp; first | done | exact Below.refl _ _)
      · (with_reducible refine FixB.of ?_ ?_; rfl; intro w' hS; have s0 := (hS.cell (p := ⟨b1, 0, none⟩) l1).trans D1.out; have s1 := (hS.cell (p := ⟨b2, 0, none⟩) l2).trans D2.out; have s2 := (hS.cell (p := ⟨bv, ov, none⟩) l4).trans D4.out; clear hS; unfold Oper.wp; go_simp; first | done | exact Below.refl _ _)
      · (with_reducible refine FixB.of ?_ ?_; rfl; intro w' hS; have s0 := (hS.cell (p := ⟨b1, 0, none⟩) l1).trans D1.out; have s1 := (hS.cell (p := ⟨b2, 0, none⟩) l2).trans D2.out; have s2 := (hS.cell (p := ⟨bv, ov, none⟩) l4).trans D4.out; clear hS; unfold Oper.wp; go_simp; first | done | exact Below.refl _ _)
      · (with_reducible refine FixB.of ?_ ?_; rfl; intro w' hS; have s3 := Lib.hid hS; unfold Oper.wp; clear hS; go_simp; refine ((Hs.out ▸ alike_any (kind := 3) _ (HI.out.below s3.out (Nat.le_refl _)) hE hm hi hx)).mono ?_; rintro e w1 ⟨rfl, hb⟩; exact ⟨rfl, hb⟩)
      · (with_reducible refine FixB.of ?_ ?_; rfl; intro w' hS; have s0 := (hS.cell (p := ⟨b1, 0, none⟩) l1).trans D1.out; have s1 := (hS.cell (p := ⟨b2, 0, none⟩) l2).trans D2.out; have s2 := (hS.cell (p := ⟨bv, ov, none⟩) l4).trans D4.out; clear hS; unfold Oper.wp; go_simp; first | done | exact Below.refl _ _)
      · exact FixB.off (by first | rfl | kernel_rfl | (simp [Region.wanted, yielded]; done)) rfl
      · exact FixB.off (by first | rfl | kernel_rfl | (simp [Region.wanted, yielded]; done)) rfl
      · exact FixB.off (by first | rfl | kernel_rfl | (simp [Region.wanted, yielded]; done)) rfl
      · exact FixB.off (by first | rfl | kernel_rfl | (simp [Region.wanted, yielded]; done)) rfl
      · exact FixB.off (by first | rfl | kernel_rfl | (simp [Region.wanted, yielded]; done)) rfl
      · exact FixB.off (by first | rfl | kernel_rfl | (simp [Region.wanted, yielded]; done)) rfl
      · exact FixB.off (by first | rfl | kernel_rfl | (simp [Region.wanted, yielded]; done)) rfl
      · exact FixB.off (by first | rfl | kernel_rfl | (simp [Region.wanted, yielded]; done)) rfl
      · (with_reducible refine FixB.of ?_ ?_; rfl; intro w' hS; have s0 := (hS.cell (p := ⟨b1, 0, none⟩) l1).trans D1.out; have s1 := (hS.cell (p := ⟨b2, 0, none⟩) l2).trans D2.out; have s2 := (hS.cell (p := ⟨bv, ov, none⟩) l4).trans D4.out; clear hS; unfold Oper.wp; go_simp; first | done | exact Below.refl _ _)
      · (with_reducible refine FixB.of ?_ ?_; rfl; intro w' hS; have s0 := (hS.cell (p := ⟨b1, 0, none⟩) l1).trans D1.out; have s1 := (hS.cell (p := ⟨b2, 0, none⟩) l2).trans D2.out; have s2 := (hS.cell (p := ⟨bv, ov, none⟩) l4).trans D4.out; clear hS; unfold Oper.wp; go_simp; first | done | exact Below.refl _ _)
    case hQ =>
    intro wc hS _
    have HB2 := Lib.hid hS
    clear hS
    go_wp2
    go_ret
    exact ⟨by rw [HR.out] <;> rfl, HB2.out⟩
  · go_enter Tryz.func168, Tryz.ntmps168
    go_wp2_with fail
    refine wp_region_same [] rfl (by kernel_rfl) (by kernel_rfl) (by kernel_rfl) (fun w' => Below w.heap.size w w') _
      [.pointer (some ⟨d, 0, none⟩), I i, .slice (some ⟨bv, ov, none⟩) 1 cv, .pointer (some ⟨bv, ov, none⟩), I x, .bool true, .bool true, .pointer (some ⟨g, 0, none⟩), .pointer (some ⟨g, 0, none⟩), .pointer (some ⟨g, 0, none⟩), .slice (some ⟨gE, 0, none⟩) E.length cE, I i, .pointer (some ⟨gE, i * 6, none⟩), .agg (mc z), .bool (isIdem z), .bool (isIdem z), .bool (isIdem z)]
      (by simp only [putAll, List.setIfInBounds_toArray, List.set_cons_succ, List.set_cons_zero]; rfl) (Below.refl _ _).drew ?hop ?hQ
    case hop =>
      refine FixBL.toL (fun w' w'' hS hb => hS.trans (hb.mono hS.size)) _ _ ?_
      refine ⟨.inr ?_, .inr ?_, .inr ?_, .inr ?_, .inr ?_, .inr ?_, .inr ?_, .inr ?_, .inr ?_, .inr ?_, .inr ?_, .inr ?_, .inr ?_, .inr ?_, .inr ?_, .inr ?_, .inr ?_, trivial⟩
      · (with_reducible refine FixB.of ?_ ?_; rfl; intro w' hS; have s0 := (hS.cell (p := ⟨b1, 0, none⟩) l1).trans D1.out; have s1 := (hS.cell (p := ⟨b2, 0, none⟩) l2).trans D2.out; have s2 := (hS.cell (p := ⟨bv, ov, none⟩) l4).trans D4.out; have s3 := (hS.cell (p := ⟨b3, 0, none⟩) l3).trans D3.out; have s4 := (hS.cell (p := ⟨g, 0, none⟩) l5).trans D5.out; have s5 := H6.out.below hS hgE; clear hS; unfold Oper.wp; go_simp; first | done | exact Below.refl _ _)
      · (with_reducible refine FixB.of ?_ ?_; rfl; intro w' hS; have s0 := (hS.cell (p := ⟨b1, 0, none⟩) l1).trans D1.out; have s1 := (hS.cell (p := ⟨b2, 0, none⟩) l2).trans D2.out; have s2 := (hS.cell (p := ⟨bv, ov, none⟩) l4).trans D4.out; have s3 := (hS.cell (p := ⟨b3, 0, none⟩) l3).trans D3.out; have s4 := (hS.cell (p := ⟨g, 0, none⟩) l5).trans D5.out; have s5 := H6.out.below hS hgE; clear hS; unfold Oper.wp; go_simp; first | done | exact Below.refl _ _)
      · (with_reducible refine FixB.of ?_ ?_; rfl; intro w' hS; have s0 := (hS.cell (p := ⟨b1, 0, none⟩) l1).trans D1.out; have s1 := (hS.cell (p := ⟨b2, 0, none⟩) l2).trans D2.out; have s2 := (hS.cell (p := ⟨bv, ov, none⟩) l4).trans D4.out; have s3 := (hS.cell (p := ⟨b3, 0, none⟩) l3).trans D3.out; have s4 := (hS.cell (p := ⟨g, 0, none⟩) l5).trans D5.out; have s5 := H6.out.below hS hgE; clear hS; unfold Oper.wp; go_simp; first | done | exact Below.refl _ _)
      · (with_reducible refine FixB.of ?_ ?_; rfl; intro w' hS; have s0 := (hS.cell (p := ⟨b1, 0, none⟩) l1).trans D1.out; have s1 := (hS.cell (p := ⟨b2, 0, none⟩) l2).trans D2.out; have s2 := (hS.cell (p := ⟨bv, ov, none⟩) l4).trans D4.out; have s3 := (hS.cell (p := ⟨b3, 0, none⟩) l3).trans D3.out; have s4 := (hS.cell (p := ⟨g, 0, none⟩) l5).trans D5.out; have s5 := H6.out.below hS hgE; clear hS; unfold Oper.wp; go_simp; first | done | exact Below.refl _ _)
      · (with_reducible refine FixB.of ?_ ?_; rfl; intro w' hS; have s0 := (hS.cell (p := ⟨b1, 0, none⟩) l1).trans D1.out; have s1 := (hS.cell (p := ⟨b2, 0, none⟩) l2).trans D2.out; have s2 := (hS.cell (p := ⟨bv, ov, none⟩) l4).trans D4.out; have s3 := (hS.cell (p := ⟨b3, 0, none⟩) l3).trans D3.out; have s4 := (hS.cell (p := ⟨g, 0, none⟩) l5).trans D5.out; have s5 := H6.out.below hS hgE; clear hS; unfold Oper.wp; go_simp; first | done | exact Below.refl _ _)
      · (with_reducible refine FixB.of ?_ ?_; rfl; intro w' hS; have s3 := Lib.hid hS; unfold Oper.wp; clear hS; go_simp; refine ((Hs.out ▸ alike_any (kind := 3) _ (HI.out.below s3.out (Nat.le_refl _)) hE hm hi hx)).mono ?_; rintro e w1 ⟨rfl, hb⟩; exact ⟨rfl, hb⟩)
      · (with_reducible refine FixB.of ?_ ?_; rfl; intro w' hS; have s0 := (hS.cell (p := ⟨b1, 0, none⟩) l1).trans D1.out; have s1 := (hS.cell (p := ⟨b2, 0, none⟩) l2).trans D2.out; have s2 := (hS.cell (p := ⟨bv, ov, none⟩) l4).trans D4.out; have s3 := (hS.cell (p := ⟨b3, 0, none⟩) l3).trans D3.out; have s4 := (hS.cell (p := ⟨g, 0, none⟩) l5).trans D5.out; have s5 := H6.out.below hS hgE; clear hS; unfold Oper.wp; go_simp; first | done | exact Below.refl _ _)
      · (refine FixB.on (by first | rfl | kernel_rfl | (simp [Region.wanted, yielded]; done)) ?_; intro w' hS; have s0 := (hS.cell (p := ⟨b1, 0, none⟩) l1).trans D1.out; have s1 := (hS.cell (p := ⟨b2, 0, none⟩) l2).trans D2.out; have s2 := (hS.cell (p := ⟨bv, ov, none⟩) l4).trans D4.out; have s3 := (hS.cell (p := ⟨b3, 0, none⟩) l3).trans D3.out; have s4 := (hS.cell (p := ⟨g, 0, none⟩) l5).trans D5.out; have s5 := H6.out.below hS hgE; clear hS; unfold Oper.wp; go_simp; first | done | exact Below.refl _ _)
      · (refine FixB.on (by first | rfl | kernel_rfl | (simp [Region.wanted, yielded]; done)) ?_; intro w' hS; have s0 := (hS.cell (p := ⟨b1, 0, none⟩) l1).trans D1.out; have s1 := (hS.cell (p := ⟨b2, 0, none⟩) l2).trans D2.out; have s2 := (hS.cell (p := ⟨bv, ov, none⟩) l4).trans D4.out; have s3 := (hS.cell (p := ⟨b3, 0, none⟩) l3).trans D3.out; have s4 := (hS.cell (p := ⟨g, 0, none⟩) l5).trans D5.out; have s5 := H6.out.below hS hgE; clear hS; unfold Oper.wp; go_simp; first | done | exact Below.refl _ _)
      · (refine FixB.on (by first | rfl | kernel_rfl | (simp [Region.wanted, yielded]; done)) ?_; intro w' hS; have s0 := (hS.cell (p := ⟨b1, 0, none⟩) l1).trans D1.out; have s1 := (hS.cell (p := ⟨b2, 0, none⟩) l2).trans D2.out; have s2 := (hS.cell (p := ⟨bv, ov, none⟩) l4).trans D4.out; have s3 := (hS.cell (p := ⟨b3, 0, none⟩) l3).trans D3.out; have s4 := (hS.cell (p := ⟨g, 0, none⟩) l5).trans D5.out; have s5 := H6.out.below hS hgE; clear hS; unfold Oper.wp; go_simp; first | done | exact Below.refl _ _)
      · (refine FixB.on (by first | rfl | kernel_rfl | (simp [Region.wanted, yielded]; done)) ?_; intro w' hS; have s0 := (hS.cell (p := ⟨b1, 0, none⟩) l1).trans D1.out; have s1 := (hS.cell (p := ⟨b2, 0, none⟩) l2).trans D2.out; have s2 := (hS.cell (p := ⟨bv, ov, none⟩) l4).trans D4.out; have s3 := (hS.cell (p := ⟨b3, 0, none⟩) l3).trans D3.out; have s4 := (hS.cell (p := ⟨g, 0, none⟩) l5).trans D5.out; have s5 := H6.out.below hS hgE; clear hS; unfold Oper.wp; go_simp; first | done | exact Below.refl _ _)
      · (refine FixB.on (by first | rfl | kernel_rfl | (simp [Region.wanted, yielded]; done)) ?_; intro w' hS; have s0 := (hS.cell (p := ⟨b1, 0, none⟩) l1).trans D1.out; have s1 := (hS.cell (p := ⟨b2, 0, none⟩) l2).trans D2.out; have s2 := (hS.cell (p := ⟨bv, ov, none⟩) l4).trans D4.out; have s3 := (hS.cell (p := ⟨b3, 0, none⟩) l3).trans D3.out; have s4 := (hS.cell (p := ⟨g, 0, none⟩) l5).trans D5.out; have s5 := H6.out.below hS hgE; clear hS; unfold Oper.wp; go_simp; first | done | exact Below.refl _ _)
      · (refine FixB.on (by first | rfl | kernel_rfl | (simp [Region.wanted, yielded]; done)) ?_; intro w' hS; have s0 := (hS.cell (p := ⟨b1, 0, none⟩) l1).trans D1.out; have s1 := (hS.cell (p := ⟨b2, 0, none⟩) l2).trans D2.out; have s2 := (hS.cell (p := ⟨bv, ov, none⟩) l4).trans D4.out; have s3 := (hS.cell (p := ⟨b3, 0, none⟩) l3).trans D3.out; have s4 := (hS.cell (p := ⟨g, 0, none⟩) l5).trans D5.out; have s5 := H6.out.below hS hgE; clear hS; unfold Oper.wp; go_simp; first | done | exact Below.refl _ _)
      · (refine FixB.on (by first | rfl | kernel_rfl | (simp [Region.wanted, yielded]; done)) ?_; intro w' hS; have s0 := (hS.cell (p := ⟨b1, 0, none⟩) l1).trans D1.out; have s1 := (hS.cell (p := ⟨b2, 0, none⟩) l2).trans D2.out; have s2 := (hS.cell (p := ⟨bv, ov, none⟩) l4).trans D4.out; have s3 := (hS.cell (p := ⟨b3, 0, none⟩) l3).trans D3.out; have s4 := (hS.cell (p := ⟨g, 0, none⟩) l5).trans D5.out; have s5 := H6.out.below hS hgE; clear hS; unfold Oper.wp; go_simp; first | done | exact Below.refl _ _)
      · (refine FixB.on (by first | rfl | kernel_rfl | (simp [Region.wanted, yielded]; done)) ?_; intro w' hS; have s3 := Lib.hid hS; unfold Oper.wp; clear hS; go_simp; refine (isIdem_any z _ hv).mono ?_; rintro e w1 ⟨rfl, hb⟩; exact ⟨rfl, hb⟩)
      · (with_reducible refine FixB.of ?_ ?_; rfl; intro w' hS; have s0 := (hS.cell (p := ⟨b1, 0, none⟩) l1).trans D1.out; have s1 := (hS.cell (p := ⟨b2, 0, none⟩) l2).trans D2.out; have s2 := (hS.cell (p := ⟨bv, ov, none⟩) l4).trans D4.out; have s3 := (hS.cell (p := ⟨b3, 0, none⟩) l3).trans D3.out; have s4 := (hS.cell (p := ⟨g, 0, none⟩) l5).trans D5.out; have s5 := H6.out.below hS hgE; clear hS; unfold Oper.wp; go_simp; first | done | exact Below.refl _ _)
      · (with_reducible refine FixB.of ?_ ?_; rfl; intro w' hS; have s0 := (hS.cell (p := ⟨b1, 0, none⟩) l1).trans D1.out; have s1 := (hS.cell (p := ⟨b2, 0, none⟩) l2).trans D2.out; have s2 := (hS.cell (p := ⟨bv, ov, none⟩) l4).trans D4.out; have s3 := (hS.cell (p := ⟨b3, 0, none⟩) l3).trans D3.out; have s4 := (hS.cell (p := ⟨g, 0, none⟩) l5).trans D5.out; have s5 := H6.out.below hS hgE; clear hS; unfold Oper.wp; go_simp; first | done | exact Below.refl _ _)
    case hQ =>
    intro wc hS _
    have HB2 := Lib.hid hS
    clear hS
    go_wp2
    go_ret
    exact ⟨by rw [HR.out] <;> rfl, HB2.out⟩
set_option maxHeartbeats 1000000 in
theorem ImplIsRegular_any (A : Option Addr) (n c : Nat) (ms : List M) (f : M) (w : World) (hx : RdM w w.heap.size A ms) (hn : ms.length = n) (hA : A = none → n = 0 ∧ c = 0) (hb : n < 536870912) :
    Calls Tryz.prog 54 #[.slice A n c, .agg (mc f)] w fun e w' => e = .returned (.tuple #[.bool (irgR ms f), I (monC ms [f])]) ∧ Below w.heap.size w w' := by
  obtain ⟨wb, hwb⟩ : ∃ wb, wb = (w.alloc (.cells (mc f) 31)).alloc (.cells (mc f) 31) := ⟨_, rfl⟩
  have hbb : Below w.heap.size w wb := by rw [hwb]; exact ((Below.refl _ _).alloc (Nat.le_refl _) _).alloc (by simp) _
  have h7 : RdM wb wb.heap.size (some ⟨w.heap.size + 1, 0, none⟩) [f] := by rw [hwb]; exact rd_one (Blk.six (Blk.new' _ _ _ (by simp)))
  have Hx := Lib.hid (Rd.more (Rd.below hx hbb) hbb.size)
  have Hn := Lib.hid hn
  have HA := Lib.hid hA
  have H7 := Lib.hid h7
  have Hbb := Lib.hid hbb
  have Hwb := Lib.hid hwb
  clear hx hn hA h7 hbb hwb
  by_cases hc : monC ms [f] = 0
  · obtain ⟨E, ps, hE, hin⟩ := monC_el hc
    have hfE := hin f (by simp)
    have hR : irgR ms f = (List.range E.length).any (irgB E (ix E f)) := by unfold irgR; rw [decide_eq_true hc, Bool.true_and, hE.r]
    have hlen := hE.len
    obtain ⟨x, hxx⟩ : ∃ x, x = ix E f := ⟨_, rfl⟩
    have hxl : x < E.length := by rw [hxx]; exact ix_lt hfE
    rw [← hxx] at hR
    have Hxx := Lib.hid hxx
    have HE := Lib.hid hE
    have Hc := Lib.hid hc
    have HR := Lib.hid hR
    clear hE hc hR hin hxx hfE
    go_enter Tryz.func54, Tryz.ntmps54
    go_wp2_with fail
    rw [← Hwb.out]
    refine (monoidOf_any A (some ⟨w.heap.size + 1, 0, none⟩) n c 1 1 ms [f] wb Hx.out H7.out Hn.out rfl HA.out (fun h => (by cases h)) (by omega)).mono ?_
    rintro e w1 ⟨r, v, rfl, hb1, hr0, hs⟩
    obtain ⟨g0, rfl, hM, hv⟩ := hs ps HE.out.clo Hc.out
    rw [← HE.out.eq] at hM hv
    simp only [List.map_cons, List.map_nil] at hv
    rw [← Hxx.out] at hv
    rw [Hc.out]
    obtain ⟨Av, cv, hvv, hrv⟩ := hv.form
    subst hvv
    obtain ⟨bv, ov, e, hbv, c0⟩ := RdI.at_ hrv (k := 0) (by simp)
    subst e
    rw [Nat.add_zero] at c0
    simp only [List.length_singleton]
    obtain ⟨w2, hw2⟩ : ∃ w2, w2 = (w1.alloc (.cells #[.pointer (some ⟨g0, 0, none⟩)] 92)).alloc (.cells #[.slice (some ⟨bv, ov, none⟩) 1 cv] 108) := ⟨_, rfl⟩
    have hb2 : Below w1.heap.size w1 w2 := by rw [hw2]; exact ((Below.refl _ _).alloc (Nat.le_refl _) _).alloc (by simp) _
    have C3 : w2.cell? ⟨w1.heap.size, 0, none⟩ = some (.pointer (some ⟨g0, 0, none⟩)) := by rw [hw2]; exact (Blk.alloc (Blk.new w1 _ _) _).cell 0
    have C2 : w2.cell? ⟨w1.heap.size + 1, 0, none⟩ = some (.slice (some ⟨bv, ov, none⟩) 1 cv) := by rw [hw2]; exact (Blk.new' _ _ _ (by simp)).cell 0
    have C4 : w2.cell? ⟨bv, ov, none⟩ = some (I x) := (hb2.cell (p := ⟨bv, ov, none⟩) hbv).trans c0
    have HM := Lib.hid (hM.below hb2 (Nat.le_refl _))
    have Hb2 := Lib.hid (hb1.trans (hb2.mono hb1.size))
    have Hw2 := Lib.hid hw2
    have D2 := Lib.hid C2
    have D4 := Lib.hid C4
    have D3 := Lib.hid C3
    clear hM hs hr0 hv hrv hb1 c0 hw2 hb2 C2 C4
    go_wp2_with fail
    rw [← Hw2.out]
    refine (ideals_any w2 HM.out hlen HE.out.mnd).mono ?_
    rintro e w3 ⟨d, rfl, hI, hb3⟩
    obtain ⟨w4, hw4⟩ : ∃ w4, w4 = w3.alloc (.cells #[.pointer (some ⟨d, 0, none⟩)] 127) := ⟨_, rfl⟩
    have hb4 : Below w3.heap.size w3 w4 := by rw [hw4]; exact (Below.refl _ _).alloc (Nat.le_refl _) _
    have hb24 := hb3.trans (hb4.mono hb3.size)
    have C1 : w4.cell? ⟨w3.heap.size, 0, none⟩ = some (.pointer (some ⟨d, 0, none⟩)) := by rw [hw4]; exact (Blk.new w3 _ _).cell 0
    have E2 := (hb24.cell (p := ⟨w1.heap.size + 1, 0, none⟩) (World.block_lt_of_cell? w2 _ D2.out)).trans D2.out
    have E3 := (hb24.cell (p := ⟨w1.heap.size, 0, none⟩) (World.block_lt_of_cell? w2 _ D3.out)).trans D3.out
    have E4 := (hb24.cell (p := ⟨bv, ov, none⟩) (World.block_lt_of_cell? w2 _ D4.out)).trans D4.out
    have hI4 := hI.below hb4 (Nat.le_refl _)
    have hM4 := HM.out.below hb24 (Nat.le_refl _)
    have m1 := World.block_lt_of_cell? w4 _ C1
    have m2 := World.block_lt_of_cell? w4 _ E2
    have m3 := World.block_lt_of_cell? w4 _ E3
    have m4 := World.block_lt_of_cell? w4 _ E4
    have HP : Hid (PredC 168 #[.pointer (some ⟨w3.heap.size, 0, none⟩), .pointer (some ⟨w1.heap.size + 1, 0, none⟩), .pointer (some ⟨w1.heap.size, 0, none⟩)] E.length (irgB E x) w4) :=
      ⟨enters_of Tryz.func168 (by kernel_rfl) rfl, fun w' hb' k hk => irg1_any w' (hM4.below hb' (Nat.le_refl _)) (hI4.below hb' (Nat.le_refl _)) hlen HE.out.mnd hk hxl ((hb'.cell m1).trans C1) ((hb'.cell m2).trans E2) ((hb'.cell m3).trans E3) ((hb'.cell m4).trans E4)⟩
    have HM4 := Lib.hid hM4
    have Hw4 := Lib.hid hw4
    have Hb4 := Lib.hid (Hb2.out.trans (hb24.mono Hb2.out.size))
    have s3 := (hb3.cell (p := ⟨w1.heap.size, 0, none⟩) (World.block_lt_of_cell? w2 _ D3.out)).trans D3.out
    have hpos := HE.out.pos
    have l3 := World.block_lt_of_cell? w3 _ s3
    clear hI hb3 hb4 hb24 C1 E2 E3 E4 hI4 hM4 m1 m2 m3 m4 hw4 C3
    go_wp2_with fail
    rw [← Hw4.out]
    refine (any_any _ _ _ w4 HM4.out hlen hpos HP.out).mono ?_
    rintro e w5 ⟨rfl, hb5⟩
    have Hbe := Lib.hid (Hbb.out.trans ((Hb4.out.trans (hb5.mono Hb4.out.size)).mono Hbb.out.size))
    clear hb5 s3
    go_wp2
    go_ret2
    exact ⟨by rw [HR.out, Hc.out] <;> rfl, Hbe.out⟩
  · have hR : irgR ms f = false := by unfold irgR; rw [decide_eq_false hc]; rfl
    have HR := Lib.hid hR
    have hne : (monC ms [f] != 0) = true := by simpa using hc
    clear hR hc
    go_enter Tryz.func54, Tryz.ntmps54
    go_wp2_with fail
    rw [← Hwb.out]
    refine (monoidOf_any A (some ⟨w.heap.size + 1, 0, none⟩) n c 1 1 ms [f] wb Hx.out H7.out Hn.out rfl HA.out (fun h => (by cases h)) (by omega)).mono ?_
    rintro e w1 ⟨r, v, rfl, hb1, hr0, hs⟩
    obtain ⟨rfl, rfl⟩ := hr0 (by simpa using hne)
    have Hb2 := Lib.hid (Hbb.out.trans (hb1.mono Hbb.out.size))
    have Hb3 := Lib.hid ((Hb2.out.alloc Hb2.out.size (.cells #[.pointer none] 92)).alloc (by have := Hb2.out.size; simp; omega) (.cells #[.slice none 0 0] 108))
    clear hb1 hr0 hs
    go_wp2
    go_ret2
    exact ⟨by rw [HR.out] <;> rfl, Hb3.out⟩
set_option maxRecDepth 100000
set_option linter.unusedSimpArgs false
set_option linter.unusedVariables false
def PredC2 (fn : Nat) (caps : Array Value) (N : Nat) (p : Nat → Nat → Bool) (w : World) : Prop :=
  (∀ args w, (callFunc fn args).run Tryz.prog w = .ok (.enter fn args) w) ∧
  ∀ w', Below w.heap.size w w' → ∀ i k, i < N → k < N → Calls Tryz.prog fn (#[I i, I k] ++ caps) w' fun e w'' => e = .returned (.bool (p i k)) ∧ Below w'.heap.size w' w''
def nfill (same : Nat → Nat → Bool) (n i : Nat) : List Int := (nm same i).1 ++ List.replicate (n - i) 0
section
variable {same : Nat → Nat → Bool}
theorem nfill_length {n i : Nat} (h : i ≤ n) : (nfill same n i).length = n := by simp [nfill, nm_length]; omega
theorem nfill_zero (same : Nat → Nat → Bool) (n : Nat) : nfill same n 0 = List.replicate n 0 := by simp [nfill, nm]
theorem nfill_all (same : Nat → Nat → Bool) (n : Nat) : nfill same n n = (nm same n).1 := by simp [nfill]
theorem gi_nfill {n i j : Nat} (h : j < i) : gi (nfill same n i) j = gi (nm same i).1 j := by
  unfold gi nfill
  simp [List.getD, List.getElem?_append_left (show j < (nm same i).1.length by rw [nm_length]; exact h)]
theorem nfill_set {n i : Nat} {x : Int} (h : i < n) (hx : (nm same (i + 1)).1 = (nm same i).1 ++ [x]) : (nfill same n i).set i x = nfill same n (i + 1) := by
  have hl := nm_length same i
  unfold nfill
  rw [hx, List.set_append_right _ _ (by omega), hl, Nat.sub_self]
  obtain ⟨m, hm⟩ : ∃ m, n - i = m + 1 := ⟨n - i - 1, by omega⟩
  rw [hm, show n - (i + 1) = m by omega, List.replicate_succ]
  simp
end
set_option maxHeartbeats 1000000 in
theorem numb_any (fn : Nat) (caps : Array Value) (same : Nat → Nat → Bool) (n : Nat) (w : World) (hc : PredC2 fn caps n same w) (hn : n ≤ 300) :
    Calls Tryz.prog 227 #[.int .i64 n, .func (.func fn) #[] caps] w fun e w' => ∃ v, e = .returned v ∧ OwI 2 w' w.heap.size v (nm same n).1 ∧ Below w.heap.size w w' := by
  obtain ⟨i, hi, hz0, hz1, hz2⟩ := info_parts infoI
  obtain ⟨eg, hc⟩ := hc
  have HC := Lib.hid hc
  clear hc
  go_enter Tryz.func227, Tryz.ntmps227
  go_wp2_with (at_make; refine wpList_make_full _ rfl _ _ _ rfl w.heap.size 2 i (.int .i64 0) 1 Tryz.underlying39 hi hz0 hz1 .i64 .i64 _ _ n rfl rfl rfl rfl (by rw [hz2]; omega) (by unfold maxLen; omega) (Nat.le_refl _) ?_; intro w1 hown hgr)
  have ho := madeI hown
  rw [← nfill_zero same] at ho
  have hbel : Below w.heap.size w w1 := (Below.refl _ _).grown hgr (Nat.le_refl _) (fun k hk => by cases hk)
  clear hown hgr
  go_loopw [6, 12] (fun nx i wr => ∃ j : Nat, j ≤ n ∧ i = .int .i64 j ∧ nx = I (nm same j).2 ∧ OwI 2 wr w.heap.size (.slice (some ⟨w.heap.size, 0, none⟩) n n) (nfill same n j) ∧ Below w.heap.size w wr) (fun _ i _ => n - (intOf i).toNat)
  case atStart => exact ⟨0, by omega, rfl, rfl, ho, hbel⟩
  case round =>
    clear ho hbel
    obtain ⟨j, hj, rfl, rfl, ho, hbel⟩ := hrel
    by_cases hlt : j < n
    · have hl := hbel.size
      have Hl := nm_length same j
      go_wp2_with fail
      go_loopw [8] (fun k wq => ∃ m : Nat, m ≤ j ∧ k = .int .i64 m ∧ Hid (∀ t, t < m → same t j = false) ∧ Hid (Below wr.heap.size wr wq)) (fun k _ => j - (intOf k).toNat)
      case atStart => exact ⟨0, by omega, rfl, fun t ht => absurd ht (by omega), Below.refl _ _⟩
      case round =>
        obtain ⟨m, hm, rfl, hg, Hb⟩ := hrel
        have hoq := ho.below Hb.out (Nat.le_refl _)
        have hbq := hbel.trans (Hb.out.mono hl)
        by_cases hmj : m < j
        · by_cases he : same m j = true
          · have Hk : Hid (nm same (j + 1) = ((nm same j).1 ++ [gi (nm same j).1 m], (nm same j).2)) := nm_hit hmj he hg.out
            go_wp2_with fail
            refine (HC.out _ hbq m j (by omega) (by omega)).mono ?_
            rintro e w2 ⟨rfl, hb⟩
            rw [he]
            replace hoq := hoq.below hb (Nat.le_refl _)
            replace hbq := hbq.trans (hb.mono hbq.size)
            clear hb he
            obtain ⟨c1, _⟩ := OwI.spotAt hoq (k := m) (by rw [nfill_length hj]; omega)
            obtain ⟨c2, z2, hg2, _, hst2⟩ := OwI.spotAt hoq (k := j) (by rw [nfill_length hj]; omega)
            have hst3 := hst2 (gi (nm same j).1 m)
            rw [nfill_set hlt (by rw [Hk.out])] at hst3
            rw [gi_nfill hmj] at c1
            have Hst := Lib.hid hst3
            clear hst2 hst3
            go_wp2
            go_roundw
            case rel => exact ⟨j + 1, by omega, by go_num, by rw [Hk.out], Hst.out, hbq.setCell (Nat.le_refl _) _⟩
            case measure => simp [intOf]; omega
          · have Hg : Hid (∀ t, t < m + 1 → same t j = false) := by
              intro t ht
              by_cases e : t = m
              · subst e; simpa using he
              · exact hg.out t (by omega)
            go_wp2_with fail
            refine (HC.out _ hbq m j (by omega) (by omega)).mono ?_
            rintro e w2 ⟨rfl, hb⟩
            rw [Bool.not_eq_true] at he
            rw [he]
            have Hb2 := Lib.hid (Hb.out.trans (hb.mono Hb.out.size))
            clear hb he hoq hbq
            go_wp2
            go_roundw
            case rel => exact ⟨m + 1, by omega, by go_num, Hg.out, Hb2⟩
            case measure => simp [intOf]; omega
        · have hmj2 : m = j := by omega
          subst hmj2
          have Hk : Hid (nm same (m + 1) = ((nm same m).1 ++ [(nm same m).2], (nm same m).2 + 1)) := nm_new hg.out
          obtain ⟨b1, b2⟩ := nm_bd same m
          have hwr : IntKind.i64.wrap ((nm same m).2 + 1) = (nm same m).2 + 1 := IntWalk.i64_in _ ⟨by omega, by omega⟩
          obtain ⟨c2, z2, hg2, _, hst2⟩ := OwI.spotAt hoq (k := m) (by rw [nfill_length hj]; omega)
          have hst3 := hst2 (nm same m).2
          rw [nfill_set hlt (by rw [Hk.out])] at hst3
          have Hst := Lib.hid hst3
          clear hst2 hst3
          go_wp2
          go_roundw
          case rel => exact ⟨m + 1, by omega, by go_num, by rw [Hk.out], Hst.out, hbq.setCell (Nat.le_refl _) _⟩
          case measure => simp [intOf]; omega
    · obtain rfl : j = n := by omega
      rw [nfill_all] at ho
      go_wp2
      go_ret
      exact ⟨_, rfl, ho, hbel⟩
set_option maxRecDepth 100000
set_option linter.unusedSimpArgs false
set_option linter.unusedVariables false
theorem cls1_any {d b1 b2 i k : Nat} {n kind : Int} {E : List M} (w : World) (hI : IdeAt w d E) (hE : E.length ≤ 300) (hm : Mnd n E) (hi : i < E.length) (hk : k < E.length)
    (C1 : w.cell? ⟨b1, 0, none⟩ = some (.pointer (some ⟨d, 0, none⟩))) (C2 : w.cell? ⟨b2, 0, none⟩ = some (I kind)) :
    Calls Tryz.prog 228 #[I i, I k, .pointer (some ⟨b1, 0, none⟩), .pointer (some ⟨b2, 0, none⟩)] w fun e w' => e = .returned (.bool (sameK E kind i k)) ∧ Below w.heap.size w w' := by
  have HI := Lib.hid hI
  have Hm := Lib.hid hm
  clear hI hm
  go_enter Tryz.func228, Tryz.ntmps228
  go_wp2_with fail
  refine (alike_any w HI.out hE Hm.out hi hk).mono ?_
  rintro e w1 ⟨rfl, hb1⟩
  go_wp2
  go_ret
  exact ⟨rfl, hb1⟩
def RetC (zs : List Int) (w : World) (e : Ending) (w' : World) : Prop := ∃ v, e = .returned v ∧ OwI 2 w' w.heap.size v zs ∧ Below w.heap.size w w'
theorem classes_any {d : Nat} {n kind : Int} {E : List M} (w : World) (hI : IdeAt w d E) (hE : E.length ≤ 300) (hm : Mnd n E) :
    Calls Tryz.prog 149 #[.pointer (some ⟨d, 0, none⟩), I kind] w (RetC (clsK E kind) w) := by
  obtain ⟨wb, hwb⟩ : ∃ wb, wb = (w.alloc (.cells #[.pointer (some ⟨d, 0, none⟩)] 127)).alloc (.cells #[I kind] 2) := ⟨_, rfl⟩
  have hbb : Below w.heap.size w wb := by rw [hwb]; exact ((Below.refl _ _).alloc (Nat.le_refl _) _).alloc (by simp) _
  have c1 : wb.cell? ⟨w.heap.size, 0, none⟩ = some (.pointer (some ⟨d, 0, none⟩)) := by rw [hwb]; exact (Blk.alloc (Blk.new w _ _) _).cell 0
  have c2 : wb.cell? ⟨w.heap.size + 1, 0, none⟩ = some (I kind) := by rw [hwb]; exact (Blk.new' _ _ _ (by simp)).cell 0
  have l1 := World.block_lt_of_cell? wb ⟨w.heap.size, 0, none⟩ c1
  have l2 := World.block_lt_of_cell? wb ⟨w.heap.size + 1, 0, none⟩ c2
  have hIb := hI.below hbb (Nat.le_refl _)
  have HP : Hid (PredC2 228 #[.pointer (some ⟨w.heap.size, 0, none⟩), .pointer (some ⟨w.heap.size + 1, 0, none⟩)] E.length (sameK E kind) wb) :=
    ⟨enters_of Tryz.func228 (by kernel_rfl) rfl, fun w' hb' i k hi hk => cls1_any w' (hIb.below hb' (Nat.le_refl _)) hE hm hi hk ((hb'.cell l1).trans c1) ((hb'.cell l2).trans c2)⟩
  obtain ⟨gl, gr, gb, hJ⟩ := hI
  have s2 := hJ.c2
  have ld := World.block_lt_of_cell? w ⟨d, 2, none⟩ s2
  have Hbb := Lib.hid hbb
  have Hwb := Lib.hid hwb
  clear hIb hbb hwb hJ
  go_enter Tryz.func149, Tryz.ntmps149
  go_wp2_with fail
  rw [← Hwb.out]
  refine (numb_any _ _ _ _ wb HP.out hE).mono ?_
  rintro e w1 ⟨v, rfl, ho, hb1⟩
  have Ho := Lib.hid (ho.mono Hbb.out.size)
  have Hb := Lib.hid (Hbb.out.trans (hb1.mono Hbb.out.size))
  obtain ⟨Av, cv, hv, _⟩ := ho.form
  clear hb1 ho
  subst hv
  go_wp2
  go_ret
  exact ⟨_, rfl, Ho.out, Hb.out⟩
end Go.Proofs.YtkbfocoaobiijaaGreat

namespace Go.Proofs.YtkbfocoaobiijaaGreat
open Go.RowKit
set_option maxRecDepth 100000
set_option linter.unusedSimpArgs false
set_option linter.unusedVariables false
abbrev TBS : TypeId := 138
theorem infoBS : (Tryz.prog.info? TBS).map (fun i => (i.zero, i.size, i.bytes)) = some (some (.slice none 0 0), 1, 24) := by kernel_rfl
theorem wpList_pushR {w : World} {ops : Array Oper} {rest : List Oper} {o : Oper} {a : Act} {Q : Exit → Act → World → Prop} (hgd : o.guard = none) (s x : Operand)
    (ho : o.op = .call { callee := .builtin .append, args := #[s, x], argTypes := #[149, 149] }) (B : Nat) (v : Value) (vs : List Value) (hs : a.eval s = v) (hown : OwV TBS w B v vs) (n : Nat) (hlen : vs.length = n)
    (g : Nat) (c : Nat) (u : Value) (hx : a.eval x = .slice (some ⟨g, 0, none⟩) 1 c) (hg : w.cell? ⟨g, 0, none⟩ = some u) (hu : u.oneCell' = true)
    (hn : n < 1073741824) (hB : B ≤ w.heap.size) (H : Nat) (hH : w.heap.size = H)
    (h : ∀ g' cap w', OwV TBS w' B (.slice (some ⟨g', 0, none⟩) (n + 1) cap) (vs ++ [u]) → w.grownBy w' v.ownBlock → (v.ownBlock = some g' ∨ g' = H) → g' < w'.heap.size →
      wpList Tryz.prog ops Q rest (a.put o.dst (.slice (some ⟨g', 0, none⟩) (n + 1) cap)) w') : wpList Tryz.prog ops Q (o :: rest) a w := by
  subst hlen
  obtain ⟨i, hi, hz0, hz1, hz2⟩ := info_parts infoBS
  refine wpList_append_lies w hgd s x 149 ho B TBS i (.slice none 0 0) 1 24 Tryz.underlying149 hi hz0 hz1 hz2 rfl (by decide) v vs.length vs hs hown ⟨g, 0, none⟩ 1 c [u] hx rfl ?_ ?_ (by decide) (by unfold maxLen; omega) (by omega) hB H hH ?_
  · intro j u' hj
    match j, hj with
    | 0, hj => simp at hj; subst hj; simpa [Addr.add] using hg
  · intro u' hu'; simp at hu'; subst hu'; exact hu
  · intro g' cap w' h1 h2 h3 h4
    exact h g' cap w' (by unfold OwV; simpa using h1) h2 h3 h4
def Tbl (w : World) (B n : Nat) (o : Option Nat) (vs : List Value) (Q : Nat → Nat → Bool) : Prop := ∀ j, j < vs.length → ∃ g, gv vs j = .slice (some ⟨g, 0, none⟩) n n ∧ Bls w g n (Q j) ∧ B ≤ g ∧ o ≠ some g
def RetT (N : Nat) (Q : Nat → Nat → Bool) (w : World) (e : Ending) (w' : World) : Prop := ∃ v vs, e = .returned v ∧ OwV TBS w' w.heap.size v vs ∧ vs.length = N ∧ Tbl w' w.heap.size N v.ownBlock vs Q ∧ Below w.heap.size w w'
set_option maxHeartbeats 1000000 in
theorem l03Table_any (A : Option Addr) (N c : Nat) (E : List M) (Ag : Option Addr) (k cg : Nat) (ms : List M) (l r : Bool) {n : Int} (w : World) (hx : RdM w w.heap.size A E) (hn : E.length = N) (hy : RdM w w.heap.size Ag ms) (hm2 : ms.length = k) (hN : N ≤ 300) (hk : k ≤ 6)
    (hM : Mnd n E) (hE : ∀ x, x ∈ E ↔ Mon ms n x) (hG : Pts n ms) :
    Calls Tryz.prog 173 #[.slice A N c, .slice Ag k cg, .bool l, .bool r] w (RetT N (fun i y => decide (Rel E l r (gm E i) (gm E y))) w) := by
  have Hx := Lib.hid hx
  have Hy := Lib.hid hy
  have Hn := Lib.hid hn
  have Hk := Lib.hid hm2
  have HM := Lib.hid hM
  have HE := Lib.hid hE
  have HG := Lib.hid hG
  clear hx hy hn hm2 hM hE hG
  go_enter Tryz.func173, Tryz.ntmps173
  go_wp2_with fail
  go_loopw [9, 10] (fun v i wr => ∃ (q : Nat) (vs : List Value), i = .int .i64 q ∧ q ≤ N ∧ vs.length = q ∧ Below w.heap.size w wr ∧ OwV TBS wr w.heap.size v vs ∧ Tbl wr w.heap.size N v.ownBlock vs (fun i y => decide (Rel E l r (gm E i) (gm E y)))) (fun _ i _ => N - (intOf i).toNat)
  case atStart => exact ⟨0, [], rfl, by omega, rfl, (Below.refl _ _).alloc (Nat.le_refl _) _, World.ownsRow_made w #[] 0 (Nat.le_refl _) (by simp [maxLen]) (by simp), fun j hj => by simp at hj⟩
  case round =>
    obtain ⟨q, vs, rfl, hq, hvl, hb', ho, ht⟩ := hrel
    obtain ⟨Av, cv, hv, _⟩ := ho.form
    rw [hvl] at hv
    subst hv
    have Hb := Lib.hid hb'
    have Ho := Lib.hid ho
    have Ht := Lib.hid ht
    have Hvl := Lib.hid hvl
    have hsz := hb'.size
    clear hb' ho ht hvl
    by_cases hqN : q < N
    · have hqz : (q : Int) < (N : Int) := by omega
      go_wp2_with fail
      refine (l03Reach_any A N c E Ag k cg ms q l r wr (Rd.more (Rd.below Hx.out Hb.out) hsz) Hn.out (Rd.more (Rd.below Hy.out Hb.out) hsz) Hk.out hN hk HM.out HE.out HG.out hqN).mono ?_
      rintro e w3 ⟨g3, rfl, hg3, hB3, hb3⟩
      have Hb3 := Lib.hid (Hb.out.trans (hb3.mono hsz))
      have Ho3 := Lib.hid (Ho.out.below hb3 (Nat.le_refl _))
      have HB3 := Lib.hid hB3
      have Ht3 : Hid (Tbl w3 w.heap.size N (Value.slice Av q cv).ownBlock vs (fun i y => decide (Rel E l r (gm E i) (gm E y)))) := fun j hj => by
        obtain ⟨g, e1, e2, e3, e4⟩ := Ht.out j hj
        exact ⟨g, e1, e2.below hb3 e2.lt, e3, e4⟩
      have hown3 : (Value.slice Av q cv).ownBlock ≠ some g3 := fun e => by have := (Ho.out.lt g3 e).2; omega
      have hl3 := hB3.lt
      have hz3 := hb3.size
      clear hb3 hB3 Hb Ho Ht
      go_wp2_with (at_builtin; refine wpList_pushR rfl (.tmp 18) (.tmp 25) rfl w.heap.size (.slice Av q cv) vs rfl (Ho3.out.alloc _) q Hvl.out w3.heap.size 1 (.slice (some ⟨g3, 0, none⟩) N N) rfl ((Blk.new _ _ _).cell 0) rfl (by omega) (by simp; omega) (w3.heap.size + 1) (by simp) ?_; intro g' cap w4 ho' hgr hg' hlt'; have Hb4 := Lib.hid ((Ho3.out.alloc (.cells #[.slice (some ⟨g3, 0, none⟩) N N] TBS)).bel (Hb3.out.alloc (by omega) _) hgr (Nat.le_refl _) (by simp; omega)); have Ho4 := Lib.hid ho'; have Hgr := Lib.hid hgr; have Hg' := Lib.hid hg'; clear ho' hgr hg' hlt')
      have Ht4 : Hid (Tbl w4 w.heap.size N (some g') (vs ++ [.slice (some ⟨g3, 0, none⟩) N N]) (fun i y => decide (Rel E l r (gm E i) (gm E y)))) := fun j hj => by
        have far : ∀ g Q, Bls w3 g N Q → (Value.slice Av q cv).ownBlock ≠ some g → Bls w4 g N Q ∧ some g' ≠ some g := fun g Q h1 h2 => by
          have hlg := h1.lt
          refine ⟨(h1.grown (World.grownBy_alloc w3 (.cells #[.slice (some ⟨g3, 0, none⟩) N N] TBS) none) (by simp)).grown Hgr.out (fun e => h2 e.symm), ?_⟩
          rcases Hg'.out with e | e
          · rw [← e]; exact h2
          · intro e2; injection e2 with e2; omega
        rw [List.length_append, List.length_singleton, Hvl.out] at hj
        by_cases e : j < q
        · obtain ⟨g, e1, e2, e3, e4⟩ := Ht3.out j (by rw [Hvl.out]; exact e)
          obtain ⟨f1, f2⟩ := far g _ e2 e4
          refine ⟨g, ?_, f1, e3, f2⟩
          rw [← e1]
          unfold gv
          rw [List.getD_eq_getElem?_getD, List.getD_eq_getElem?_getD, List.getElem?_append_left (by rw [Hvl.out]; exact e)]
        · obtain rfl : j = q := by omega
          obtain ⟨f1, f2⟩ := far g3 _ HB3.out hown3
          refine ⟨g3, ?_, f1, by omega, f2⟩
          unfold gv
          rw [List.getD_eq_getElem?_getD, List.getElem?_append_right (by rw [Hvl.out]; exact Nat.le_refl _), Hvl.out, Nat.sub_self]
          rfl
      go_wp2_with fail
      go_roundw
      case rel => exact ⟨q + 1, vs ++ [.slice (some ⟨g3, 0, none⟩) N N], by go_num, by omega, by rw [List.length_append, Hvl.out]; rfl, Hb4.out, Ho4.out, (by have h := Ht4.out; exact h)⟩
      case measure => simp [intOf]; omega
    · obtain rfl : q = N := by omega
      have hqz : ¬ ((q : Int) < (q : Int)) := by omega
      go_wp2_with fail
      go_ret
      exact ⟨_, vs, rfl, Ho.out, Hvl.out, Ht.out, Hb.out⟩
set_option maxRecDepth 100000
set_option linter.unusedSimpArgs false
set_option linter.unusedVariables false
def both (Q : Nat → Nat → Bool) (k i : Nat) : Bool := Q i k && Q k i
theorem OwV.rdA {e : TypeId} {w : World} {B n c : Nat} {A : Option Addr} {vs : List Value} (h : OwV e w B (.slice A n c) vs) : RdV w w.heap.size A vs := by
  obtain ⟨A', c', e, h⟩ := h.form
  injection e with e1
  subst e1
  exact h
theorem RdV.at0 {w : World} {B : Nat} {b off : Nat} {vs : List Value} (h : RdV w B (some ⟨b, off, none⟩) vs) {k : Nat} (hk : k < vs.length) : w.cell? ⟨b, off + k, none⟩ = some (gv vs k) := by
  obtain ⟨b', off', e, _, c⟩ := h.at_ hk
  injection e with e
  injection e with e1 e2 _
  subst e1 e2
  exact c
theorem RdI.at0 {w : World} {B : Nat} {b off : Nat} {zs : List Int} (h : RdI w B (some ⟨b, off, none⟩) zs) {k : Nat} (hk : k < zs.length) : w.cell? ⟨b, off + k, none⟩ = some (I (gi zs k)) := by
  obtain ⟨b', off', e, _, c⟩ := h.at_ hk
  injection e with e
  injection e with e1 e2 _
  subst e1 e2
  exact c
set_option maxHeartbeats 1000000 in
theorem l03Classes_any (Av : Option Addr) (N cv : Nat) (vs : List Value) (Q : Nat → Nat → Bool) (B : Nat) (w : World) (ho : OwV TBS w B (.slice Av N cv) vs) (hl : vs.length = N) (hT : Tbl w B N (Value.slice Av N cv).ownBlock vs Q) (hN : N ≤ 300) :
    Calls Tryz.prog 174 #[.slice Av N cv] w (RetC (nm (both Q) N).1 w) := by
  have HR := Lib.hid ho.rdA
  have Hl := Lib.hid hl
  have HT := Lib.hid hT
  clear ho hl hT
  go_enter Tryz.func174, Tryz.ntmps174
  go_wp2_with fail
  go_loopw [3, 4, 5] (fun v nx i wr => ∃ q : Nat, i = .int .i64 q ∧ q ≤ N ∧ nx = I (nm (both Q) q).2 ∧ Below w.heap.size w wr ∧ OwI 2 wr w.heap.size v (nm (both Q) q).1) (fun _ _ i _ => N - (intOf i).toNat)
  case atStart => exact ⟨0, rfl, by omega, rfl, (Below.refl _ _).alloc (Nat.le_refl _) _, OwI.made (Nat.le_refl _)⟩
  case round =>
    obtain ⟨q, rfl, hq, rfl, hb', ho⟩ := hrel
    have hnl := nm_length (both Q) q
    have hnb := nm_bd (both Q) q
    obtain ⟨A1, c1, hv, _⟩ := ho.form
    rw [hnl] at hv
    subst hv
    have Hb := Lib.hid hb'
    have Ho1 := Lib.hid ho
    have hsz := hb'.size
    clear hb' ho
    by_cases hqN : q < N
    · have hqz : (q : Int) < (N : Int) := by omega
      obtain ⟨b, off, rfl, hbb, _⟩ := RdV.at_ HR.out (k := q) (by rw [Hl.out]; exact hqN)
      obtain ⟨gq, e1, e2, _, _⟩ := HT.out q (by rw [Hl.out]; exact hqN)
      have E1 := Lib.hid e1
      have E2 := Lib.hid e2
      clear e1 e2
      go_wp2_with fail
      go_loopw [6, 7] (fun own k wq => ∃ m : Nat, k = .int .i64 m ∧ m ≤ q ∧ Below wr.heap.size wr wq ∧ ((own = I (-1) ∧ Hid (∀ t, t < m → both Q t q = false)) ∨ ∃ t, t < q ∧ own = I (gi (nm (both Q) q).1 t) ∧ Hid (nm (both Q) (q + 1) = ((nm (both Q) q).1 ++ [gi (nm (both Q) q).1 t], (nm (both Q) q).2)))) (fun _ k _ => q - (intOf k).toNat)
      case atStart => exact ⟨0, rfl, by omega, Below.refl _ _, .inl ⟨rfl, fun t ht => by omega⟩⟩
      case round =>
        obtain ⟨m, rfl, hm, hbq, hor⟩ := hrel
        have Hbq := Lib.hid hbq
        have hsq := hbq.size
        have Hbw := Lib.hid (Hb.out.trans (hbq.mono hsz))
        have Ho3 := Lib.hid (Ho1.out.below hbq (Nat.le_refl _))
        clear hbq
        rcases hor with ⟨rfl, hno⟩ | ⟨t, htq, rfl, hnm⟩
        · by_cases hmq : m < q
          · have hmz : (m : Int) < (q : Int) := by omega
            have hmN : (m : Int) < (N : Int) := by omega
            obtain ⟨gm, f1, f2, _, _⟩ := HT.out m (by rw [Hl.out]; omega)
            have x1 := RdV.at0 (Rd.below HR.out Hbw.out) (k := q) (by rw [Hl.out]; exact hqN)
            have x2 := RdV.at0 (Rd.below HR.out Hbw.out) (k := m) (by rw [Hl.out]; omega)
            rw [E1.out] at x1
            rw [f1] at x2
            have x3 := (E2.out.below Hbw.out E2.out.lt).cell (i := m) (by omega)
            have x4 := (f2.below Hbw.out f2.lt).cell (i := q) hqN
            clear f1 f2
            obtain ⟨A, offA, rfl, hbA, _⟩ := RdI.at_ Ho3.out.rdA (k := m) (by rw [hnl]; exact hmq)
            have x5 := RdI.at0 Ho3.out.rdA (k := m) (by rw [hnl]; exact hmq)
            have hbo : ∀ a b, Q q m = a → Q m q = b → both Q m q = (a && b) := fun a b h1 h2 => by unfold both; rw [h1, h2]
            have nxt : both Q m q = false → Hid (∀ t, t < m + 1 → both Q t q = false) := fun h t ht => by
              by_cases e : t = m
              · rw [e]; exact h
              · exact hno.out t (by omega)
            cases h1 : Q q m
            · rw [h1] at x3
              have Hn := nxt (by cases h2 : Q m q <;> rw [hbo _ _ h1 h2] <;> rfl)
              clear nxt hbo h1 x2 x4 x5
              go_wp2_with fail
              go_roundw
              case rel => exact ⟨m + 1, by go_num, by omega, Hbq.out, .inl ⟨rfl, Hn⟩⟩
              case measure => simp [intOf]; omega
            · rw [h1] at x3
              cases h2 : Q m q
              · rw [h2] at x4
                have Hn := nxt (by rw [hbo _ _ h1 h2]; rfl)
                clear nxt hbo h1 h2 x5
                go_wp2_with fail
                go_roundw
                case rel => exact ⟨m + 1, by go_num, by omega, Hbq.out, .inl ⟨rfl, Hn⟩⟩
                case measure => simp [intOf]; omega
              · rw [h2] at x4
                have Hn : Hid (nm (both Q) (q + 1) = ((nm (both Q) q).1 ++ [gi (nm (both Q) q).1 m], (nm (both Q) q).2)) := nm_hit hmq (by rw [hbo _ _ h1 h2]; rfl) hno.out
                clear nxt hbo h1 h2
                go_wp2_with fail
                go_roundw
                case rel => exact ⟨m + 1, by go_num, by omega, Hbq.out, .inr ⟨m, hmq, rfl, Hn⟩⟩
                case measure => simp [intOf]; omega
          · obtain rfl : m = q := by omega
            have hmz : ¬ ((m : Int) < (m : Int)) := by omega
            have Hn : Hid (nm (both Q) (m + 1) = ((nm (both Q) m).1 ++ [(nm (both Q) m).2], (nm (both Q) m).2 + 1)) := nm_new hno.out
            have hwr : IntKind.i64.wrap ((nm (both Q) m).2 + 1) = (nm (both Q) m).2 + 1 := IntWalk.i64_in _ ⟨by omega, by omega⟩
            go_wp2_with (at_builtin; refine wpList_pushI rfl (.tmp 49) (.tmp 51) rfl w.heap.size (.slice A1 m c1) (nm (both Q) m).1 rfl (Ho3.out.alloc _) wr.heap.size 1 (nm (both Q) m).2 rfl ((Blk.new _ _ _).cell 0) (by rw [hnl]; omega) (by simp; omega) (wr.heap.size + 1) (by simp) ?_; intro g' cap w4 ho' hgr hg' hlt'; have Hb4 := Lib.hid ((Ho3.out.alloc (.cells #[I (nm (both Q) m).2] 2)).bel (Hbw.out.alloc (by omega) _) hgr (Nat.le_refl _) (by simp; omega)); have Ho4 := Lib.hid ho'; rw [hnl] at Ho4; clear ho' hgr hg' hlt')
            go_roundw
            case rel => exact ⟨m + 1, by go_num, by omega, by rw [Hn.out], Hb4.out, by rw [Hn.out]; exact Ho4.out⟩
            case measure => simp [intOf]; omega
        · have hval := nm_val (both Q) q t htq
          obtain ⟨z, hz⟩ : ∃ z, z = gi (nm (both Q) q).1 t := ⟨_, rfl⟩
          rw [← hz] at hval hnm ⊢
          clear hz
          have hz0 : ¬ (z < 0) := by omega
          clear hval
          rcases Decidable.em ((m : Int) < (q : Int)) with hmz | hmz
          all_goals
            go_wp2_with (at_builtin; refine wpList_pushI rfl (.tmp 49) (.tmp 51) rfl w.heap.size (.slice A1 q c1) (nm (both Q) q).1 rfl (Ho3.out.alloc _) wr.heap.size 1 z rfl ((Blk.new _ _ _).cell 0) (by rw [hnl]; omega) (by simp; omega) (wr.heap.size + 1) (by simp) ?_; intro g' cap w4 ho' hgr hg' hlt'; have Hb4 := Lib.hid ((Ho3.out.alloc (.cells #[I z] 2)).bel (Hbw.out.alloc (by omega) _) hgr (Nat.le_refl _) (by simp; omega)); have Ho4 := Lib.hid ho'; rw [hnl] at Ho4; clear ho' hgr hg' hlt')
            refine ⟨⟨q + 1, by go_num, by omega, by rw [hnm.out], Hb4.out, by rw [hnm.out]; exact Ho4.out⟩, by simp [intOf]; omega⟩
    · obtain rfl : q = N := by omega
      have hqz : ¬ ((q : Int) < (q : Int)) := by omega
      clear hnb
      go_wp2_with fail
      go_ret
      exact ⟨_, rfl, Ho1.out, Hb.out⟩
set_option maxRecDepth 100000
set_option linter.unusedSimpArgs false
set_option linter.unusedVariables false
theorem both_cls {n : Int} {E : List M} {N : Nat} (hn : E.length = N) {l r : Bool} {kind : Int} (h : ∀ i k, bothB E l r i k = sameK E kind i k) :
    (nm (both fun i y => decide (Rel E l r (gm E i) (gm E y))) N).1 = clsK E kind := by
  subst hn
  unfold clsK
  congr 1
  refine nm_congr fun a b _ _ => ?_
  rw [← h a b]
  unfold both bothB relB
  exact Bool.and_comm _ _
theorem RetC.up {zs : List Int} {w w1 : World} {e : Ending} {w' : World} (h : RetC zs w1 e w') (hb : Below w.heap.size w w1) : RetC zs w e w' := by
  obtain ⟨v, e1, ho, h1⟩ := h
  exact ⟨v, e1, ho.mono hb.size, hb.trans (h1.mono hb.size)⟩
set_option maxHeartbeats 1000000 in
theorem l03Kind1_any (A : Option Addr) (N c : Nat) (E : List M) (Ag : Option Addr) (k cg : Nat) (ms : List M) {n : Int} (kind : Int) (l r : Bool) (hk0 : (kind = 0 ∧ l = true ∧ r = false) ∨ (kind = 1 ∧ l = false ∧ r = true) ∨ (kind = 3 ∧ l = true ∧ r = true))
    (w : World) (hx : RdM w w.heap.size A E) (hn : E.length = N) (hy : RdM w w.heap.size Ag ms) (hm2 : ms.length = k) (hN : N ≤ 300) (hk : k ≤ 6)
    (hM : Mnd n E) (hE : ∀ x, x ∈ E ↔ Mon ms n x) (hG : Pts n ms) :
    Calls Tryz.prog 152 #[.slice A N c, .slice Ag k cg, I kind] w (RetC (clsK E kind) w) := by
  have Hx := Lib.hid hx
  have Hy := Lib.hid hy
  have Hn := Lib.hid hn
  have Hk := Lib.hid hm2
  have HM := Lib.hid hM
  have HE := Lib.hid hE
  have HG := Lib.hid hG
  have HC : Hid (∀ l r kind, (∀ i k, bothB E l r i k = sameK E kind i k) → (nm (both fun i y => decide (Rel E l r (gm E i) (gm E y))) N).1 = clsK E kind) := fun l r kind h => both_cls (n := n) hn h
  clear hx hy hn hm2 hM hE hG
  rcases hk0 with ⟨rfl, rfl, rfl⟩ | ⟨rfl, rfl, rfl⟩ | ⟨rfl, rfl, rfl⟩
  all_goals
    go_enter Tryz.func152, Tryz.ntmps152
    go_wp2_with fail
    refine (l03Table_any A N c E Ag k cg ms _ _ w Hx.out Hn.out Hy.out Hk.out hN hk HM.out HE.out HG.out).mono ?_
    rintro e w1 ⟨v, vs, rfl, ho, hl, hT, hb1⟩
    obtain ⟨Av, cv, hv, _⟩ := ho.form
    rw [hl] at hv
    subst hv
    have Ho := Lib.hid ho
    have Hl := Lib.hid hl
    have HT := Lib.hid hT
    have Hb := Lib.hid hb1
    have hz := hb1.size
    clear ho hl hT hb1
    go_wp2_with fail
    refine (l03Classes_any Av N cv vs _ w.heap.size w1 Ho.out Hl.out HT.out hN).mono ?_
    rintro e w2 ⟨v2, rfl, ho2, hb2⟩
    have Ho2 := Lib.hid ho2
    have Hb2 := Lib.hid (Hb.out.trans (hb2.mono hz))
    obtain ⟨A2, c2, hv2, _⟩ := ho2.form
    clear ho2 hb2
    subst hv2
    go_wp2_with fail
    go_ret
    refine ⟨_, rfl, ?_, Hb2.out⟩
  · rw [← HC.out true false 0 fun i k => bothB_L E i k]
    exact Ho2.out.mono hz
  · rw [← HC.out false true 1 fun i k => bothB_R E i k]
    exact Ho2.out.mono hz
  · rw [← HC.out true true 3 fun i k => bothB_J E i k]
    exact Ho2.out.mono hz
def pairQ (xs ys : List Int) (k i : Nat) : Bool := decide (gi xs k = gi xs i) && decide (gi ys k = gi ys i)
set_option maxHeartbeats 2000000 in
theorem l03Kind2_any (A : Option Addr) (N c : Nat) (E : List M) (Ag : Option Addr) (k cg : Nat) (ms : List M) {n : Int}
    (w : World) (hx : RdM w w.heap.size A E) (hn : E.length = N) (hy : RdM w w.heap.size Ag ms) (hm2 : ms.length = k) (hN : N ≤ 300) (hk : k ≤ 6)
    (hM : Mnd n E) (hE : ∀ x, x ∈ E ↔ Mon ms n x) (hG : Pts n ms) :
    Calls Tryz.prog 152 #[.slice A N c, .slice Ag k cg, I 2] w (RetC (clsK E 2) w) := by
  have HC : Hid ((nm (pairQ (clsK E 0) (clsK E 1)) N).1 = clsK E 2) := by
    show _ = _
    subst hn
    unfold clsK
    congr 1
    refine nm_congr fun a b ha hb => ?_
    exact full_same hM ha hb
  obtain ⟨xs, hxs⟩ : ∃ xs, xs = clsK E 0 := ⟨_, rfl⟩
  obtain ⟨ys, hys⟩ : ∃ ys, ys = clsK E 1 := ⟨_, rfl⟩
  have hxl : xs.length = N := by rw [hxs, clsK_length, hn]
  have hyl : ys.length = N := by rw [hys, clsK_length, hn]
  have Hx := Lib.hid hx
  have Hy := Lib.hid hy
  have Hn := Lib.hid hn
  have Hk := Lib.hid hm2
  have HM := Lib.hid hM
  have HE := Lib.hid hE
  have HG := Lib.hid hG
  have Hxl := Lib.hid hxl
  have Hyl := Lib.hid hyl
  have Hxs := Lib.hid hxs
  have Hys := Lib.hid hys
  clear hx hy hn hm2 hM hE hG hxl hyl hxs hys
  go_enter Tryz.func152, Tryz.ntmps152
  go_wp2_with fail
  refine (l03Kind1_any A N c E Ag k cg ms 0 true false (.inl ⟨rfl, rfl, rfl⟩) w Hx.out Hn.out Hy.out Hk.out hN hk HM.out HE.out HG.out).mono ?_
  rintro e w1 ⟨v, rfl, ho, hb1⟩
  rw [← Hxs.out] at ho
  obtain ⟨A1, c1, hv, _⟩ := ho.form
  rw [Hxl.out] at hv
  subst hv
  have Ho := Lib.hid ho
  have Hb := Lib.hid hb1
  have hz := hb1.size
  clear ho hb1
  go_wp2_with fail
  refine (l03Kind1_any A N c E Ag k cg ms 1 false true (.inr (.inl ⟨rfl, rfl, rfl⟩)) w1 (Rd.more (Rd.below Hx.out Hb.out) hz) Hn.out (Rd.more (Rd.below Hy.out Hb.out) hz) Hk.out hN hk HM.out HE.out HG.out).mono ?_
  rintro e w2 ⟨v, rfl, ho2, hb2⟩
  rw [← Hys.out] at ho2
  obtain ⟨A2, c2, hv, _⟩ := ho2.form
  rw [Hyl.out] at hv
  subst hv
  have Ho1 := Lib.hid (Ho.out.below hb2 (Nat.le_refl _)).rdA
  have Ho2 := Lib.hid ho2.rdA
  have Hb2 := Lib.hid (Hb.out.trans (hb2.mono hz))
  have hz2 := hb2.size
  clear ho2 hb2 Ho Hb
  go_wp2_with fail
  go_loopw [9, 10, 11] (fun v nx i wr => ∃ q : Nat, i = .int .i64 q ∧ q ≤ N ∧ nx = I (nm (pairQ xs ys) q).2 ∧ Below w2.heap.size w2 wr ∧ OwI 2 wr w2.heap.size v (nm (pairQ xs ys) q).1) (fun _ _ i _ => N - (intOf i).toNat)
  case atStart => exact ⟨0, rfl, by omega, rfl, (Below.refl _ _).alloc (Nat.le_refl _) _, OwI.made (Nat.le_refl _)⟩
  case round =>
    obtain ⟨q, rfl, hq, rfl, hb', ho⟩ := hrel
    have hnl := nm_length (pairQ xs ys) q
    have hnb := nm_bd (pairQ xs ys) q
    obtain ⟨A3, c3, hv, _⟩ := ho.form
    rw [hnl] at hv
    subst hv
    have Hb := Lib.hid hb'
    have Ho3 := Lib.hid ho
    have hsz := hb'.size
    clear hb' ho
    by_cases hqN : q < N
    · have hqz : (q : Int) < (N : Int) := by omega
      obtain ⟨b1, off1, rfl, hbb1, _⟩ := RdI.at_ Ho1.out (k := q) (by rw [Hxl.out]; exact hqN)
      obtain ⟨b2, off2, rfl, hbb2, _⟩ := RdI.at_ Ho2.out (k := q) (by rw [Hyl.out]; exact hqN)
      go_wp2_with fail
      go_loopw [12, 13] (fun own k wq => ∃ m : Nat, k = .int .i64 m ∧ m ≤ q ∧ Below wr.heap.size wr wq ∧ ((own = I (-1) ∧ Hid (∀ t, t < m → pairQ xs ys t q = false)) ∨ ∃ t, t < q ∧ own = I (gi (nm (pairQ xs ys) q).1 t) ∧ Hid (nm (pairQ xs ys) (q + 1) = ((nm (pairQ xs ys) q).1 ++ [gi (nm (pairQ xs ys) q).1 t], (nm (pairQ xs ys) q).2)))) (fun _ k _ => q - (intOf k).toNat)
      case atStart => exact ⟨0, rfl, by omega, Below.refl _ _, .inl ⟨rfl, fun t ht => by omega⟩⟩
      case round =>
        obtain ⟨m, rfl, hm, hbq, hor⟩ := hrel
        have Hbq := Lib.hid hbq
        have hsq := hbq.size
        have Hbw := Lib.hid (Hb.out.trans (hbq.mono hsz))
        have Ho4 := Lib.hid (Ho3.out.below hbq (Nat.le_refl _))
        clear hbq
        rcases hor with ⟨rfl, hno⟩ | ⟨t, htq, rfl, hnm⟩
        · by_cases hmq : m < q
          · have hmz : (m : Int) < (q : Int) := by omega
            have hmN : (m : Int) < (N : Int) := by omega
            have hsw := Hbw.out.size
            obtain ⟨a, ha⟩ : ∃ a, a = gi xs m := ⟨_, rfl⟩
            obtain ⟨b, hb⟩ : ∃ b, b = gi xs q := ⟨_, rfl⟩
            obtain ⟨cc, hc⟩ : ∃ cc, cc = gi ys m := ⟨_, rfl⟩
            obtain ⟨dd, hd⟩ : ∃ dd, dd = gi ys q := ⟨_, rfl⟩
            have Ha := Lib.hid ha
            have Hb1 := Lib.hid hb
            have Hc := Lib.hid hc
            have Hd := Lib.hid hd
            have Hpq : Hid (pairQ xs ys m q = (decide (a = b) && decide (cc = dd))) := by show _ = _; unfold pairQ; rw [ha, hb, hc, hd]
            have nxt : Hid (pairQ xs ys m q = false → ∀ t, t < m + 1 → pairQ xs ys t q = false) := fun h t ht => by
              by_cases e : t = m
              · rw [e]; exact h
              · exact hno.out t (by omega)
            clear ha hb hc hd
            have HF : Hid (∀ w', Below wr.heap.size wr w' → w'.cell? ⟨b1, off1 + m, none⟩ = some (I a) ∧ w'.cell? ⟨b1, off1 + q, none⟩ = some (I b) ∧ w'.cell? ⟨b2, off2 + m, none⟩ = some (I cc) ∧ w'.cell? ⟨b2, off2 + q, none⟩ = some (I dd)) := fun w' hS => by
              have hB := Hbw.out.trans (hS.mono hsw)
              rw [Ha.out, Hb1.out, Hc.out, Hd.out]
              exact ⟨RdI.at0 (Rd.below Ho1.out hB) (by rw [Hxl.out]; omega), RdI.at0 (Rd.below Ho1.out hB) (by rw [Hxl.out]; omega), RdI.at0 (Rd.below Ho2.out hB) (by rw [Hyl.out]; omega), RdI.at0 (Rd.below Ho2.out hB) (by rw [Hyl.out]; omega)⟩
            by_cases h1 : a = b
            · by_cases h2 : cc = dd
              · have Hn : Hid (nm (pairQ xs ys) (q + 1) = ((nm (pairQ xs ys) q).1 ++ [gi (nm (pairQ xs ys) q).1 m], (nm (pairQ xs ys) q).2)) := nm_hit hmq (by rw [Hpq.out, decide_eq_true h1, decide_eq_true h2]; rfl) hno.out
                subst h1
                subst h2
                obtain ⟨A, offA, rfl, hbA, _⟩ := RdI.at_ Ho4.out.rdA (k := m) (by rw [hnl]; exact hmq)
                clear hnb
                go_wp2_with fail
                refine wp_region_same [] rfl (by kernel_rfl) (by kernel_rfl) (by kernel_rfl) (fun w' => Below wr.heap.size wr w') _
                  [.slice (some ⟨b1, off1, none⟩) N c1, I m, .pointer (some ⟨b1, off1 + m, none⟩), I a, .slice (some ⟨b1, off1, none⟩) N c1, I q, .pointer (some ⟨b1, off1 + q, none⟩), I a, .bool true, .bool true, .slice (some ⟨b2, off2, none⟩) N c2, I m, .pointer (some ⟨b2, off2 + m, none⟩), I cc, .slice (some ⟨b2, off2, none⟩) N c2, I q, .pointer (some ⟨b2, off2 + q, none⟩), I cc, .bool true, .bool true]
                  (by simp only [putAll, List.setIfInBounds_toArray, List.set_cons_succ, List.set_cons_zero]; rfl) (Below.refl _ _).drew ?hop ?hQ
                case hop =>
                  refine FixBL.toL (fun w' w'' hS hb => hS.trans (hb.mono hS.size)) _ _ ?_
                  refine ⟨.inr ?_, .inr ?_, .inr ?_, .inr ?_, .inr ?_, .inr ?_, .inr ?_, .inr ?_, .inr ?_, .inr ?_, .inr ?_, .inr ?_, .inr ?_, .inr ?_, .inr ?_, .inr ?_, .inr ?_, .inr ?_, .inr ?_, .inr ?_, trivial⟩
                  · (with_reducible refine FixB.of ?_ ?_; rfl; intro w' hS; obtain ⟨s0, s1, s2, s3⟩ := HF.out _ hS; clear hS; unfold Oper.wp; go_simp; first | done | exact Below.refl _ _)
                  · (with_reducible refine FixB.of ?_ ?_; rfl; intro w' hS; obtain ⟨s0, s1, s2, s3⟩ := HF.out _ hS; clear hS; unfold Oper.wp; go_simp; first | done | exact Below.refl _ _)
                  · (with_reducible refine FixB.of ?_ ?_; rfl; intro w' hS; obtain ⟨s0, s1, s2, s3⟩ := HF.out _ hS; clear hS; unfold Oper.wp; go_simp; first | done | exact Below.refl _ _)
                  · (with_reducible refine FixB.of ?_ ?_; rfl; intro w' hS; obtain ⟨s0, s1, s2, s3⟩ := HF.out _ hS; clear hS; unfold Oper.wp; go_simp; first | done | exact Below.refl _ _)
                  · (with_reducible refine FixB.of ?_ ?_; rfl; intro w' hS; obtain ⟨s0, s1, s2, s3⟩ := HF.out _ hS; clear hS; unfold Oper.wp; go_simp; first | done | exact Below.refl _ _)
                  · (with_reducible refine FixB.of ?_ ?_; rfl; intro w' hS; obtain ⟨s0, s1, s2, s3⟩ := HF.out _ hS; clear hS; unfold Oper.wp; go_simp; first | done | exact Below.refl _ _)
                  · (with_reducible refine FixB.of ?_ ?_; rfl; intro w' hS; obtain ⟨s0, s1, s2, s3⟩ := HF.out _ hS; clear hS; unfold Oper.wp; go_simp; first | done | exact Below.refl _ _)
                  · (with_reducible refine FixB.of ?_ ?_; rfl; intro w' hS; obtain ⟨s0, s1, s2, s3⟩ := HF.out _ hS; clear hS; unfold Oper.wp; go_simp; first | done | exact Below.refl _ _)
                  · (with_reducible refine FixB.of ?_ ?_; rfl; intro w' hS; obtain ⟨s0, s1, s2, s3⟩ := HF.out _ hS; clear hS; unfold Oper.wp; go_simp; first | done | exact Below.refl _ _)
                  · (with_reducible refine FixB.of ?_ ?_; rfl; intro w' hS; obtain ⟨s0, s1, s2, s3⟩ := HF.out _ hS; clear hS; unfold Oper.wp; go_simp; first | done | exact Below.refl _ _)
                  · (refine FixB.on (by first | rfl | kernel_rfl | (simp [Region.wanted, yielded]; done)) ?_; intro w' hS; obtain ⟨s0, s1, s2, s3⟩ := HF.out _ hS; clear hS; unfold Oper.wp; go_simp; first | done | exact Below.refl _ _)
                  · (refine FixB.on (by first | rfl | kernel_rfl | (simp [Region.wanted, yielded]; done)) ?_; intro w' hS; obtain ⟨s0, s1, s2, s3⟩ := HF.out _ hS; clear hS; unfold Oper.wp; go_simp; first | done | exact Below.refl _ _)
                  · (refine FixB.on (by first | rfl | kernel_rfl | (simp [Region.wanted, yielded]; done)) ?_; intro w' hS; obtain ⟨s0, s1, s2, s3⟩ := HF.out _ hS; clear hS; unfold Oper.wp; go_simp; first | done | exact Below.refl _ _)
                  · (refine FixB.on (by first | rfl | kernel_rfl | (simp [Region.wanted, yielded]; done)) ?_; intro w' hS; obtain ⟨s0, s1, s2, s3⟩ := HF.out _ hS; clear hS; unfold Oper.wp; go_simp; first | done | exact Below.refl _ _)
                  · (refine FixB.on (by first | rfl | kernel_rfl | (simp [Region.wanted, yielded]; done)) ?_; intro w' hS; obtain ⟨s0, s1, s2, s3⟩ := HF.out _ hS; clear hS; unfold Oper.wp; go_simp; first | done | exact Below.refl _ _)
                  · (refine FixB.on (by first | rfl | kernel_rfl | (simp [Region.wanted, yielded]; done)) ?_; intro w' hS; obtain ⟨s0, s1, s2, s3⟩ := HF.out _ hS; clear hS; unfold Oper.wp; go_simp; first | done | exact Below.refl _ _)
                  · (refine FixB.on (by first | rfl | kernel_rfl | (simp [Region.wanted, yielded]; done)) ?_; intro w' hS; obtain ⟨s0, s1, s2, s3⟩ := HF.out _ hS; clear hS; unfold Oper.wp; go_simp; first | done | exact Below.refl _ _)
                  · (refine FixB.on (by first | rfl | kernel_rfl | (simp [Region.wanted, yielded]; done)) ?_; intro w' hS; obtain ⟨s0, s1, s2, s3⟩ := HF.out _ hS; clear hS; unfold Oper.wp; go_simp; first | done | exact Below.refl _ _)
                  · (refine FixB.on (by first | rfl | kernel_rfl | (simp [Region.wanted, yielded]; done)) ?_; intro w' hS; obtain ⟨s0, s1, s2, s3⟩ := HF.out _ hS; clear hS; unfold Oper.wp; go_simp; first | done | exact Below.refl _ _)
                  · (with_reducible refine FixB.of ?_ ?_; rfl; intro w' hS; obtain ⟨s0, s1, s2, s3⟩ := HF.out _ hS; clear hS; unfold Oper.wp; go_simp; first | done | exact Below.refl _ _)
                case hQ =>
                intro wc hS _
                have HB2 := Lib.hid hS
                clear hS
                have Hbq2 := Lib.hid (Hbq.out.trans (HB2.out.mono hsq))
                have x5 := RdI.at0 (Rd.more (Rd.below Ho4.out.rdA HB2.out) HB2.out.size) (k := m) (by rw [hnl]; exact hmq)
                clear hsw
                go_wp2_with fail
                go_roundw
                case rel => exact ⟨m + 1, by go_num, by omega, Hbq2.out, .inr ⟨m, hmq, rfl, Hn⟩⟩
                case measure => simp [intOf]; omega
              · have Hn : Hid (∀ t, t < m + 1 → pairQ xs ys t q = false) := nxt.out (by rw [Hpq.out, decide_eq_false h2, Bool.and_false])
                subst h1
                have h2b : (cc == dd) = false := by simpa using h2
                clear h2
                go_wp2_with fail
                refine wp_region_same [] rfl (by kernel_rfl) (by kernel_rfl) (by kernel_rfl) (fun w' => Below wr.heap.size wr w') _
                  [.slice (some ⟨b1, off1, none⟩) N c1, I m, .pointer (some ⟨b1, off1 + m, none⟩), I a, .slice (some ⟨b1, off1, none⟩) N c1, I q, .pointer (some ⟨b1, off1 + q, none⟩), I a, .bool true, .bool true, .slice (some ⟨b2, off2, none⟩) N c2, I m, .pointer (some ⟨b2, off2 + m, none⟩), I cc, .slice (some ⟨b2, off2, none⟩) N c2, I q, .pointer (some ⟨b2, off2 + q, none⟩), I dd, .bool false, .bool false]
                  (by simp only [putAll, List.setIfInBounds_toArray, List.set_cons_succ, List.set_cons_zero]; rfl) (Below.refl _ _).drew ?hop ?hQ
                case hop =>
                  refine FixBL.toL (fun w' w'' hS hb => hS.trans (hb.mono hS.size)) _ _ ?_
                  refine ⟨.inr ?_, .inr ?_, .inr ?_, .inr ?_, .inr ?_, .inr ?_, .inr ?_, .inr ?_, .inr ?_, .inr ?_, .inr ?_, .inr ?_, .inr ?_, .inr ?_, .inr ?_, .inr ?_, .inr ?_, .inr ?_, .inr ?_, .inr ?_, trivial⟩
                  · (with_reducible refine FixB.of ?_ ?_; rfl; intro w' hS; obtain ⟨s0, s1, s2, s3⟩ := HF.out _ hS; clear hS; unfold Oper.wp; go_simp; first | done | exact Below.refl _ _)
                  · (with_reducible refine FixB.of ?_ ?_; rfl; intro w' hS; obtain ⟨s0, s1, s2, s3⟩ := HF.out _ hS; clear hS; unfold Oper.wp; go_simp; first | done | exact Below.refl _ _)
                  · (with_reducible refine FixB.of ?_ ?_; rfl; intro w' hS; obtain ⟨s0, s1, s2, s3⟩ := HF.out _ hS; clear hS; unfold Oper.wp; go_simp; first | done | exact Below.refl _ _)
                  · (with_reducible refine FixB.of ?_ ?_; rfl; intro w' hS; obtain ⟨s0, s1, s2, s3⟩ := HF.out _ hS; clear hS; unfold Oper.wp; go_simp; first | done | exact Below.refl _ _)
                  · (with_reducible refine FixB.of ?_ ?_; rfl; intro w' hS; obtain ⟨s0, s1, s2, s3⟩ := HF.out _ hS; clear hS; unfold Oper.wp; go_simp; first | done | exact Below.refl _ _)
                  · (with_reducible refine FixB.of ?_ ?_; rfl; intro w' hS; obtain ⟨s0, s1, s2, s3⟩ := HF.out _ hS; clear hS; unfold Oper.wp; go_simp; first | done | exact Below.refl _ _)
                  · (with_reducible refine FixB.of ?_ ?_; rfl; intro w' hS; obtain ⟨s0, s1, s2, s3⟩ := HF.out _ hS; clear hS; unfold Oper.wp; go_simp; first | done | exact Below.refl _ _)
                  · (with_reducible refine FixB.of ?_ ?_; rfl; intro w' hS; obtain ⟨s0, s1, s2, s3⟩ := HF.out _ hS; clear hS; unfold Oper.wp; go_simp; first | done | exact Below.refl _ _)
                  · (with_reducible refine FixB.of ?_ ?_; rfl; intro w' hS; obtain ⟨s0, s1, s2, s3⟩ := HF.out _ hS; clear hS; unfold Oper.wp; go_simp; first | done | exact Below.refl _ _)
                  · (with_reducible refine FixB.of ?_ ?_; rfl; intro w' hS; obtain ⟨s0, s1, s2, s3⟩ := HF.out _ hS; clear hS; unfold Oper.wp; go_simp; first | done | exact Below.refl _ _)
                  · (refine FixB.on (by first | rfl | kernel_rfl | (simp [Region.wanted, yielded]; done)) ?_; intro w' hS; obtain ⟨s0, s1, s2, s3⟩ := HF.out _ hS; clear hS; unfold Oper.wp; go_simp; first | done | exact Below.refl _ _)
                  · (refine FixB.on (by first | rfl | kernel_rfl | (simp [Region.wanted, yielded]; done)) ?_; intro w' hS; obtain ⟨s0, s1, s2, s3⟩ := HF.out _ hS; clear hS; unfold Oper.wp; go_simp; first | done | exact Below.refl _ _)
                  · (refine FixB.on (by first | rfl | kernel_rfl | (simp [Region.wanted, yielded]; done)) ?_; intro w' hS; obtain ⟨s0, s1, s2, s3⟩ := HF.out _ hS; clear hS; unfold Oper.wp; go_simp; first | done | exact Below.refl _ _)
                  · (refine FixB.on (by first | rfl | kernel_rfl | (simp [Region.wanted, yielded]; done)) ?_; intro w' hS; obtain ⟨s0, s1, s2, s3⟩ := HF.out _ hS; clear hS; unfold Oper.wp; go_simp; first | done | exact Below.refl _ _)
                  · (refine FixB.on (by first | rfl | kernel_rfl | (simp [Region.wanted, yielded]; done)) ?_; intro w' hS; obtain ⟨s0, s1, s2, s3⟩ := HF.out _ hS; clear hS; unfold Oper.wp; go_simp; first | done | exact Below.refl _ _)
                  · (refine FixB.on (by first | rfl | kernel_rfl | (simp [Region.wanted, yielded]; done)) ?_; intro w' hS; obtain ⟨s0, s1, s2, s3⟩ := HF.out _ hS; clear hS; unfold Oper.wp; go_simp; first | done | exact Below.refl _ _)
                  · (refine FixB.on (by first | rfl | kernel_rfl | (simp [Region.wanted, yielded]; done)) ?_; intro w' hS; obtain ⟨s0, s1, s2, s3⟩ := HF.out _ hS; clear hS; unfold Oper.wp; go_simp; first | done | exact Below.refl _ _)
                  · (refine FixB.on (by first | rfl | kernel_rfl | (simp [Region.wanted, yielded]; done)) ?_; intro w' hS; obtain ⟨s0, s1, s2, s3⟩ := HF.out _ hS; clear hS; unfold Oper.wp; go_simp; first | done | exact Below.refl _ _)
                  · (refine FixB.on (by first | rfl | kernel_rfl | (simp [Region.wanted, yielded]; done)) ?_; intro w' hS; obtain ⟨s0, s1, s2, s3⟩ := HF.out _ hS; clear hS; unfold Oper.wp; go_simp; first | done | exact Below.refl _ _)
                  · (with_reducible refine FixB.of ?_ ?_; rfl; intro w' hS; obtain ⟨s0, s1, s2, s3⟩ := HF.out _ hS; clear hS; unfold Oper.wp; go_simp; first | done | exact Below.refl _ _)
                case hQ =>
                intro wc hS _
                have HB2 := Lib.hid hS
                clear hS
                have Hbq2 := Lib.hid (Hbq.out.trans (HB2.out.mono hsq))
                clear hsw
                go_wp2_with fail
                go_roundw
                case rel => exact ⟨m + 1, by go_num, by omega, Hbq2.out, .inl ⟨rfl, Hn⟩⟩
                case measure => simp [intOf]; omega
            · have Hn : Hid (∀ t, t < m + 1 → pairQ xs ys t q = false) := nxt.out (by rw [Hpq.out, decide_eq_false h1, Bool.false_and])
              have h1b : (a == b) = false := by simpa using h1
              clear h1
              go_wp2_with fail
              refine wp_region_same [] rfl (by kernel_rfl) (by kernel_rfl) (by kernel_rfl) (fun w' => Below wr.heap.size wr w') _
                [.slice (some ⟨b1, off1, none⟩) N c1, I m, .pointer (some ⟨b1, off1 + m, none⟩), I a, .slice (some ⟨b1, off1, none⟩) N c1, I q, .pointer (some ⟨b1, off1 + q, none⟩), I b, .bool false, .bool false, undef, undef, undef, undef, undef, undef, undef, undef, undef, .bool false]
                (by simp only [putAll, List.setIfInBounds_toArray, List.set_cons_succ, List.set_cons_zero]; rfl) (Below.refl _ _).drew ?hop ?hQ
              case hop =>
                refine FixBL.toL (fun w' w'' hS hb => hS.trans (hb.mono hS.size)) _ _ ?_
                refine ⟨.inr ?_, .inr ?_, .inr ?_, .inr ?_, .inr ?_, .inr ?_, .inr ?_, .inr ?_, .inr ?_, .inr ?_, .inr ?_, .inr ?_, .inr ?_, .inr ?_, .inr ?_, .inr ?_, .inr ?_, .inr ?_, .inr ?_, .inr ?_, trivial⟩
                · (with_reducible refine FixB.of ?_ ?_; rfl; intro w' hS; obtain ⟨s0, s1, s2, s3⟩ := HF.out _ hS; clear hS; unfold Oper.wp; go_simp; first | done | exact Below.refl _ _)
                · (with_reducible refine FixB.of ?_ ?_; rfl; intro w' hS; obtain ⟨s0, s1, s2, s3⟩ := HF.out _ hS; clear hS; unfold Oper.wp; go_simp; first | done | exact Below.refl _ _)
                · (with_reducible refine FixB.of ?_ ?_; rfl; intro w' hS; obtain ⟨s0, s1, s2, s3⟩ := HF.out _ hS; clear hS; unfold Oper.wp; go_simp; first | done | exact Below.refl _ _)
                · (with_reducible refine FixB.of ?_ ?_; rfl; intro w' hS; obtain ⟨s0, s1, s2, s3⟩ := HF.out _ hS; clear hS; unfold Oper.wp; go_simp; first | done | exact Below.refl _ _)
                · (with_reducible refine FixB.of ?_ ?_; rfl; intro w' hS; obtain ⟨s0, s1, s2, s3⟩ := HF.out _ hS; clear hS; unfold Oper.wp; go_simp; first | done | exact Below.refl _ _)
                · (with_reducible refine FixB.of ?_ ?_; rfl; intro w' hS; obtain ⟨s0, s1, s2, s3⟩ := HF.out _ hS; clear hS; unfold Oper.wp; go_simp; first | done | exact Below.refl _ _)
                · (with_reducible refine FixB.of ?_ ?_; rfl; intro w' hS; obtain ⟨s0, s1, s2, s3⟩ := HF.out _ hS; clear hS; unfold Oper.wp; go_simp; first | done | exact Below.refl _ _)
                · (with_reducible refine FixB.of ?_ ?_; rfl; intro w' hS; obtain ⟨s0, s1, s2, s3⟩ := HF.out _ hS; clear hS; unfold Oper.wp; go_simp; first | done | exact Below.refl _ _)
                · (with_reducible refine FixB.of ?_ ?_; rfl; intro w' hS; obtain ⟨s0, s1, s2, s3⟩ := HF.out _ hS; clear hS; unfold Oper.wp; go_simp; first | done | exact Below.refl _ _)
                · (with_reducible refine FixB.of ?_ ?_; rfl; intro w' hS; obtain ⟨s0, s1, s2, s3⟩ := HF.out _ hS; clear hS; unfold Oper.wp; go_simp; first | done | exact Below.refl _ _)
                · exact FixB.off (by first | rfl | kernel_rfl | (simp [Region.wanted, yielded]; done)) rfl
                · exact FixB.off (by first | rfl | kernel_rfl | (simp [Region.wanted, yielded]; done)) rfl
                · exact FixB.off (by first | rfl | kernel_rfl | (simp [Region.wanted, yielded]; done)) rfl
                · exact FixB.off (by first | rfl | kernel_rfl | (simp [Region.wanted, yielded]; done)) rfl
                · exact FixB.off (by first | rfl | kernel_rfl | (simp [Region.wanted, yielded]; done)) rfl
                · exact FixB.off (by first | rfl | kernel_rfl | (simp [Region.wanted, yielded]; done)) rfl
                · exact FixB.off (by first | rfl | kernel_rfl | (simp [Region.wanted, yielded]; done)) rfl
                · exact FixB.off (by first | rfl | kernel_rfl | (simp [Region.wanted, yielded]; done)) rfl
                · exact FixB.off (by first | rfl | kernel_rfl | (simp [Region.wanted, yielded]; done)) rfl
                · (with_reducible refine FixB.of ?_ ?_; rfl; intro w' hS; obtain ⟨s0, s1, s2, s3⟩ := HF.out _ hS; clear hS; unfold Oper.wp; go_simp; first | done | exact Below.refl _ _)
              case hQ =>
              intro wc hS _
              have HB2 := Lib.hid hS
              clear hS
              have Hbq2 := Lib.hid (Hbq.out.trans (HB2.out.mono hsq))
              clear hsw
              go_wp2_with fail
              go_roundw
              case rel => exact ⟨m + 1, by go_num, by omega, Hbq2.out, .inl ⟨rfl, Hn⟩⟩
              case measure => simp [intOf]; omega
          · obtain rfl : m = q := by omega
            have hmz : ¬ ((m : Int) < (m : Int)) := by omega
            have Hn : Hid (nm (pairQ xs ys) (m + 1) = ((nm (pairQ xs ys) m).1 ++ [(nm (pairQ xs ys) m).2], (nm (pairQ xs ys) m).2 + 1)) := nm_new hno.out
            have hwr : IntKind.i64.wrap ((nm (pairQ xs ys) m).2 + 1) = (nm (pairQ xs ys) m).2 + 1 := IntWalk.i64_in _ ⟨by omega, by omega⟩
            go_wp2_with (at_builtin; refine wpList_pushI rfl (.tmp 84) (.tmp 86) rfl w2.heap.size (.slice A3 m c3) (nm (pairQ xs ys) m).1 rfl (Ho4.out.alloc _) wr.heap.size 1 (nm (pairQ xs ys) m).2 rfl ((Blk.new _ _ _).cell 0) (by rw [hnl]; omega) (by simp; omega) (wr.heap.size + 1) (by simp) ?_; intro g' cap w4 ho' hgr hg' hlt'; have Hb4 := Lib.hid ((Ho4.out.alloc (.cells #[I (nm (pairQ xs ys) m).2] 2)).bel (Hbw.out.alloc (by omega) _) hgr (Nat.le_refl _) (by simp; omega)); have Ho5 := Lib.hid ho'; rw [hnl] at Ho5; clear ho' hgr hg' hlt')
            go_roundw
            case rel => exact ⟨m + 1, by go_num, by omega, by rw [Hn.out], Hb4.out, by rw [Hn.out]; exact Ho5.out⟩
            case measure => simp [intOf]; omega
        · have hval := nm_val (pairQ xs ys) q t htq
          obtain ⟨z, hz⟩ : ∃ z, z = gi (nm (pairQ xs ys) q).1 t := ⟨_, rfl⟩
          rw [← hz] at hval hnm ⊢
          clear hz
          have hz0 : ¬ (z < 0) := by omega
          clear hval
          rcases Decidable.em ((m : Int) < (q : Int)) with hmz | hmz
          all_goals
            go_wp2_with (at_builtin; refine wpList_pushI rfl (.tmp 84) (.tmp 86) rfl w2.heap.size (.slice A3 q c3) (nm (pairQ xs ys) q).1 rfl (Ho4.out.alloc _) wr.heap.size 1 z rfl ((Blk.new _ _ _).cell 0) (by rw [hnl]; omega) (by simp; omega) (wr.heap.size + 1) (by simp) ?_; intro g' cap w4 ho' hgr hg' hlt'; have Hb4 := Lib.hid ((Ho4.out.alloc (.cells #[I z] 2)).bel (Hbw.out.alloc (by omega) _) hgr (Nat.le_refl _) (by simp; omega)); have Ho5 := Lib.hid ho'; rw [hnl] at Ho5; clear ho' hgr hg' hlt')
            refine ⟨⟨q + 1, by go_num, by omega, by rw [hnm.out], Hb4.out, by rw [hnm.out]; exact Ho5.out⟩, by simp [intOf]; omega⟩
    · obtain rfl : q = N := by omega
      have hqz : ¬ ((q : Int) < (q : Int)) := by omega
      clear hnb
      go_wp2_with fail
      go_ret
      exact ⟨_, rfl, by rw [← HC.out, ← Hxs.out, ← Hys.out]; exact Ho3.out.mono (by have := Hb2.out.size; omega), Hb2.out.trans (Hb.out.mono (by have := Hb2.out.size; omega))⟩
end Go.Proofs.YtkbfocoaobiijaaGreat

namespace Go.Proofs.YtkbfocoaobiijaaGreat
open Go.RowKit
set_option maxRecDepth 100000
set_option linter.unusedSimpArgs false
set_option linter.unusedVariables false
def mxT (zs : List Int) : Nat → Int
  | 0 => -1
  | k + 1 => max (mxT zs k) (gi zs k)
theorem mxT_ge (zs : List Int) : ∀ {k j : Nat}, j < k → gi zs j ≤ mxT zs k
  | 0, j, h => by omega
  | k + 1, j, h => by
    unfold mxT
    by_cases e : j = k
    · subst e; omega
    · have := mxT_ge zs (k := k) (j := j) (by omega); omega
theorem mxT_le (zs : List Int) {b : Int} (hb : -1 ≤ b) : ∀ {k : Nat}, (∀ j, j < k → gi zs j ≤ b) → mxT zs k ≤ b
  | 0, _ => hb
  | k + 1, h => by
    unfold mxT
    have := mxT_le zs hb (k := k) fun j hj => h j (by omega)
    have := h k (by omega)
    omega
theorem mxT_lo (zs : List Int) : ∀ k : Nat, -1 ≤ mxT zs k
  | 0 => by unfold mxT; omega
  | k + 1 => by unfold mxT; have := mxT_lo zs k; omega
theorem mxT_one (zs : List Int) (h : 0 ≤ gi zs 0) : mxT zs 1 = gi zs 0 := by
  simp only [mxT]
  omega
theorem mxT_nm (same : Nat → Nat → Bool) (N : Nat) : mxT (nm same N).1 N + 1 = (nm same N).2 := by
  have hb := nm_bd same N
  have h1 : mxT (nm same N).1 N ≤ (nm same N).2 - 1 := mxT_le _ (by omega) fun j hj => by have := nm_val same N j hj; omega
  by_cases h0 : (nm same N).2 = 0
  · have := mxT_lo (nm same N).1 N
    omega
  · obtain ⟨j, hj, e⟩ := nm_onto same N ((nm same N).2 - 1) (by omega) (by omega)
    have := mxT_ge (nm same N).1 hj
    omega
theorem imax_if (x y : Int) : (if x < y then y else x) = max x y := by split <;> omega
theorem RdI.at0' {w : World} {B : Nat} {b off : Nat} {zs : List Int} (h : RdI w B (some ⟨b, off, none⟩) zs) {k : Nat} (hk : k < zs.length) : w.cell? ⟨b, off + k, none⟩ = some (I (gi zs k)) := by
  obtain ⟨b', off', e, _, c⟩ := h.at_ hk
  injection e with e
  injection e with e1 e2 _
  subst e1 e2
  exact c
theorem OwI.rdB {e : TypeId} {w : World} {B n c : Nat} {A : Option Addr} {zs : List Int} (h : OwI e w B (.slice A n c) zs) : RdI w w.heap.size A zs := by
  obtain ⟨A', c', e1, h⟩ := h.form
  injection e1 with e1
  subst e1
  exact h
theorem l03Number_any (A : Option Addr) (n c : Nat) (zs : List Int) (w : World) (hx : RdI w w.heap.size A zs) (hn : zs.length = n) (hb : n ≤ 300) (hz : ∀ j, j < n → 0 ≤ gi zs j ∧ gi zs j ≤ 300) :
    Calls Tryz.prog 151 #[.slice A n c] w fun e w' => e = .returned (I (mxT zs n + 1)) ∧ Below w.heap.size w w' := by
  have Hx := Lib.hid hx
  have Hn := Lib.hid hn
  have Hz := Lib.hid hz
  clear hx hn hz
  go_enter Tryz.func151, Tryz.ntmps151
  go_wp2_with fail
  go_loopw [3, 4] (fun v i wr => ∃ k : Nat, v = I (mxT zs k) ∧ i = .int .i64 k ∧ k ≤ n ∧ Below w.heap.size w wr) (fun _ i _ => n - (intOf i).toNat)
  case atStart => exact ⟨0, rfl, rfl, by omega, Below.refl _ _⟩
  case round =>
    obtain ⟨k, rfl, rfl, hk, hbel⟩ := hrel
    have Hb := Lib.hid hbel
    have h1 := mxT_lo zs k
    have h2 : mxT zs k ≤ 300 := mxT_le _ (by omega) fun j hj => (Hz.out j (by omega)).2
    clear hbel
    by_cases hlt : k < n
    · have hltz : (k : Int) < (n : Int) := by omega
      obtain ⟨b, off, rfl, hbb, c1⟩ := RdI.at_ (Hx.out.below Hb.out) (k := k) (by rw [Hn.out]; exact hlt)
      have hv := Hz.out k hlt
      have hm : mxT zs (k + 1) = max (mxT zs k) (gi zs k) := rfl
      obtain ⟨x, hx⟩ : ∃ x, x = mxT zs k := ⟨_, rfl⟩
      obtain ⟨y, hy⟩ : ∃ y, y = gi zs k := ⟨_, rfl⟩
      rw [← hy] at c1 hm
      rw [← hx] at hm ⊢
      have Hm := Lib.hid hm
      clear hx hy h1 h2 hv hm
      go_wp2_with fail
      refine ⟨⟨k + 1, by first | rw [Hm.out, imax_if] | rw [Hm.out], by go_num, by omega, Hb.out⟩, by simp [intOf]; omega⟩
    · obtain rfl : k = n := by omega
      have hltz : ¬ ((k : Int) < (k : Int)) := by omega
      have hw : IntKind.i64.wrap (mxT zs k + 1) = mxT zs k + 1 := IntWalk.i64_in _ ⟨by omega, by omega⟩
      go_wp2_with fail
      go_ret
      exact ⟨rfl, Hb.out⟩
theorem slMax_any (A : Option Addr) (n c : Nat) (zs : List Int) (w : World) (hx : RdI w w.heap.size A zs) (hn : zs.length = n) (hp : 0 < n) (hb : n ≤ 300) (hz : ∀ j, j < n → 0 ≤ gi zs j ∧ gi zs j ≤ 300) :
    Calls Tryz.prog 172 #[.slice A n c] w fun e w' => e = .returned (I (mxT zs n)) ∧ Below w.heap.size w w' := by
  obtain ⟨b, off, rfl, hbb, c0⟩ := RdI.at_ hx (k := 0) (by omega)
  have h1 := mxT_one zs (hz 0 hp).1
  rw [← h1] at c0
  simp only [Nat.add_zero] at c0
  have Hx := Lib.hid hx
  have Hn := Lib.hid hn
  have Hz := Lib.hid hz
  have hpz : ¬ ((n : Int) < 1) := by omega
  have hpz2 : (0 : Int) < (n : Int) := by omega
  clear hx hn hz h1
  go_enter Tryz.func172, Tryz.ntmps172
  go_wp2_with fail
  go_loopw [3, 4] (fun v i wr => ∃ k : Nat, v = I (mxT zs k) ∧ i = .int .i64 k ∧ 0 < k ∧ k ≤ n ∧ Below w.heap.size w wr) (fun _ i _ => n - (intOf i).toNat)
  case atStart => exact ⟨1, rfl, rfl, by omega, by omega, Below.refl _ _⟩
  case round =>
    clear c0
    obtain ⟨k, rfl, rfl, hk0, hk, hbel⟩ := hrel
    have Hb := Lib.hid hbel
    clear hbel
    by_cases hlt : k < n
    · have hltz : (k : Int) < (n : Int) := by omega
      have c1 := RdI.at0' (Hx.out.below Hb.out) (k := k) (by rw [Hn.out]; exact hlt)
      have hm : mxT zs (k + 1) = max (mxT zs k) (gi zs k) := rfl
      obtain ⟨x, hx⟩ : ∃ x, x = mxT zs k := ⟨_, rfl⟩
      obtain ⟨y, hy⟩ : ∃ y, y = gi zs k := ⟨_, rfl⟩
      rw [← hy] at c1 hm
      rw [← hx] at hm ⊢
      have Hm := Lib.hid hm
      clear hx hy hm
      go_wp2_with fail
      refine ⟨⟨k + 1, by first | rw [Hm.out, imax_if] | rw [Hm.out], by go_num, by omega, by omega, Hb.out⟩, by simp [intOf]; omega⟩
    · obtain rfl : k = n := by omega
      have hltz : ¬ ((k : Int) < (k : Int)) := by omega
      go_wp2_with fail
      go_ret
      exact ⟨rfl, Hb.out⟩
theorem many_any (A : Option Addr) (n c : Nat) (zs : List Int) (w : World) (hx : RdI w w.heap.size A zs) (hn : zs.length = n) (hp : 0 < n) (hb : n ≤ 300) (hz : ∀ j, j < n → 0 ≤ gi zs j ∧ gi zs j ≤ 300) :
    Calls Tryz.prog 148 #[.slice A n c] w fun e w' => e = .returned (I (mxT zs n + 1)) ∧ Below w.heap.size w w' := by
  have Hx := Lib.hid hx
  have Hn := Lib.hid hn
  have Hz := Lib.hid hz
  have h1 := mxT_lo zs n
  have h2 : mxT zs n ≤ 300 := mxT_le _ (by omega) fun j hj => (hz j hj).2
  have hw : IntKind.i64.wrap (mxT zs n + 1) = mxT zs n + 1 := IntWalk.i64_in _ ⟨by omega, by omega⟩
  clear hx hn hz h1 h2
  go_enter Tryz.func148, Tryz.ntmps148
  go_wp2_with fail
  refine (slMax_any A n c zs w Hx.out Hn.out hp hb Hz.out).mono ?_
  rintro e w1 ⟨rfl, hb1⟩
  have Hb := Lib.hid hb1
  clear hb1
  go_wp2
  go_ret
  exact ⟨rfl, Hb.out⟩
theorem isKind_any (k : Int) (w : World) : Calls Tryz.prog 154 #[I k] w fun e w' => e = .returned (.bool (inR k 0 3)) ∧ Below w.heap.size w w' := by
  go_enter Tryz.func154, Tryz.ntmps154
  go_wp2_with fail
  refine (within_any k 0 3 w).mono ?_
  rintro e w1 ⟨rfl, rfl⟩
  go_wp2
  go_ret
  exact ⟨rfl, Below.refl _ _⟩
end Go.Proofs.YtkbfocoaobiijaaGreat
