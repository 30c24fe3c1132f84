/- Contracts of IsUnder on both sides; the lists are as each theorem states. -/
import Derived.Test.YtknknljkmkfmoaaH4
import Derived.Test.YtknknljkmkfmoaaG5
namespace Go.Proofs.Ytknknljkmkfmoaa
open Go.RowKit
set_option maxRecDepth 100000
set_option linter.unusedSimpArgs false
set_option linter.unusedVariables false

theorem monC_el {ms xs : List M} (h : monC ms xs = 0) : ∃ E ps, El ms xs E ps ∧ ∀ f ∈ xs, f ∈ E := by
  have hc : elC ms xs = 0 := by
    by_cases hc : elC ms xs = 0
    · exact hc
    · rw [elC_mon hc] at h; exact h
  obtain ⟨E, ps, hE⟩ := elC_el hc
  refine ⟨E, ps, hE, fun f hf => ?_⟩
  by_cases hin : f ∈ E
  · exact hin
  · have := monC_out hE.code hE.clo hf (by rw [← hE.eq]; exact hin)
    rw [this] at h; cases h
/-- two maps in a block of their own are a list -/
theorem rd_two {w : World} {f g : M} {b : Nat} (h : Blk w b 31 #[I f.p, I f.t0, I f.t1, I f.t2, I f.t3, I f.t4, I g.p, I g.t0, I g.t1, I g.t2, I g.t3, I g.t4]) : RdM w w.heap.size (some ⟨b, 0, none⟩) [f, g] := by
  refine ⟨by simp [mcs], fun _ => ⟨b, 0, rfl, h.lt, fun j u hj => ?_⟩⟩
  rw [Nat.zero_add, h.cell, ← hj, ← Array.getElem?_toList]
  simp only [mcs, List.flatMap_cons, List.flatMap_nil, List.append_nil]
  rfl
/-- f is a product with g in the middle -/
def iuR (ms : List M) (f g : M) : Bool := decide (monC ms [f, g] = 0) && decide (JJ (elR ms [f, g]) g f)

set_option maxHeartbeats 1000000 in
theorem SpecIsUnder_any (A : Option Addr) (n c : Nat) (ms : List M) (f g : M) (w : World) (hx : RdM w w.heap.size A ms) (hn : ms.length = n) (hb : n < 1073741824) :
    Calls Try.prog 57 #[.slice A n c, .agg (mc f), .agg (mc g)] w fun e w' => e = .returned (.tuple #[.bool (iuR ms f g), I (monC ms [f, g])]) ∧ Below w.heap.size w w' := by
  obtain ⟨wb, hwb⟩ : ∃ wb, wb = ((w.alloc (.cells (mc f) 31)).alloc (.cells (mc g) 31)).alloc (.cells #[I f.p, I f.t0, I f.t1, I f.t2, I f.t3, I f.t4, I g.p, I g.t0, I g.t1, I g.t2, I g.t3, I g.t4] 31) := ⟨_, rfl⟩
  have hbb : Below w.heap.size w wb := by rw [hwb]; exact (((Below.refl _ _).alloc (Nat.le_refl _) _).alloc (by simp) _).alloc (by simp; omega) _
  have h7 : RdM wb wb.heap.size (some ⟨w.heap.size + 2, 0, none⟩) [f, g] := by rw [hwb]; exact rd_two (Blk.new' _ _ _ (by simp))
  have Hx := Lib.hid (Rd.more (Rd.below hx hbb) hbb.size)
  have Hn := Lib.hid hn
  have H7 := Lib.hid h7
  have Hbb := Lib.hid hbb
  have Hwb := Lib.hid hwb
  clear hx hn h7 hbb hwb
  by_cases hc : monC ms [f, g] = 0
  · obtain ⟨E, ps, hE, hin⟩ := monC_el hc
    have hfE := hin f (by simp)
    have hgE := hin g (by simp)
    have hR : iuR ms f g = decide (JJ E g f) := by unfold iuR; rw [decide_eq_true hc, Bool.true_and, hE.r]
    have hG : gR ms [f, g] = E := by unfold gR; rw [if_pos hc, hE.r]
    have hNN : gN ms [f, g] = [(ix E f : Int), (ix E g : Int)] := by unfold gN; rw [if_pos hc, hE.r]; rfl
    have hlen := hE.len
    have hn6 := hE.n6
    obtain ⟨x, hxx⟩ : ∃ x, x = ix E f := ⟨_, rfl⟩
    obtain ⟨y, hyy⟩ : ∃ y, y = ix E g := ⟨_, rfl⟩
    have hxl : x < E.length := by rw [hxx]; exact ix_lt hfE
    have hyl : y < E.length := by rw [hyy]; exact ix_lt hgE
    obtain ⟨t, ht⟩ : ∃ t, t = iuR ms f g := ⟨_, rfl⟩
    have Ht : Hid (decide (Rel E true true (gm E y) (gm E x)) = t) := by
      show _ = _
      rw [ht, hR, hxx, hyy, gm_ix hfE, gm_ix hgE]
      rfl
    rw [← hxx, ← hyy] at hNN
    obtain ⟨N, hN⟩ : ∃ N, E.length = N := ⟨_, rfl⟩
    rw [hN] at hlen hxl hyl
    have HN := Lib.hid hN
    have HE := Lib.hid hE
    have Hc := Lib.hid hc
    have HG := Lib.hid hG
    have HNN := Lib.hid hNN
    have hxz : (x : Int) < (N : Int) := by omega
    have hn6' : n ≤ 6 := by rw [← Hn.out]; exact hn6
    rw [← ht]
    clear hE hc hR hin hG hNN hxx hyy ht hN hfE hgE hn6
    go_enter Try.func57, Try.ntmps57
    go_wp2_with fail
    rw [← Hwb.out]
    refine (l03Given_any A (some ⟨w.heap.size + 2, 0, none⟩) n c 2 2 ms [f, g] wb Hx.out H7.out Hn.out rfl hb (by decide)).mono ?_
    rintro e w1 ⟨A', c', v, rfl, hr, hv, hb1⟩
    rw [HG.out] at hr ⊢
    rw [HNN.out] at hv
    rw [Hc.out, HN.out]
    obtain ⟨Av, cv, hvv, hrv⟩ := hv.form
    subst hvv
    obtain ⟨bv, ov, e, hbv, c0⟩ := RdI.at_ hrv (k := 0) (by simp)
    subst e
    obtain ⟨bv', ov', e, _, c1⟩ := RdI.at_ hrv (k := 1) (by simp)
    injection e with e
    injection e with e1 e2 _
    subst e1 e2
    rw [Nat.add_zero] at c0
    have C0 : Hid (w1.cell? ⟨bv, ov, none⟩ = some (I x)) := c0
    have C1 : Hid (w1.cell? ⟨bv, ov + 1, none⟩ = some (I y)) := c1
    have Hr := Lib.hid hr
    have Hb1 := Lib.hid hb1
    have hz1 := hb1.size
    simp only [List.length_cons, List.length_nil, Nat.zero_add]
    clear hr hv hrv hb1 c0 c1
    go_wp2_with fail
    refine wp_region_flags [] rfl (by kernel_rfl) (by kernel_rfl) [] (by kernel_rfl) _
      (fun s : Nat => [.slice A' N c', .slice A n c, .slice (some ⟨bv, ov, none⟩) 2 cv, .pointer (some ⟨bv, ov + 1, none⟩), I y, .slice (some ⟨s, 0, none⟩) N N, .slice (some ⟨bv, ov, none⟩) 2 cv, .pointer (some ⟨bv, ov, none⟩), I x, .pointer (some ⟨s, x, none⟩), .bool t, .bool t, I 0])
      (by intro s; simp only [putAll, List.setIfInBounds_toArray, List.set_cons_succ, List.set_cons_zero]; rfl)
      [] rfl _
      (by intro s; simp only [setAll, List.setIfInBounds_toArray, List.set_cons_succ, List.set_cons_zero]; rfl) (by kernel_rfl)
      (fun d s w' => Below w1.heap.size w1 w' ∧ (d 5 = true → Bls w' s N fun z => decide (Rel E true true (gm E y) (gm E z))))
      0 ⟨(Below.refl _ _).drew, by simp⟩ ?hop ?hQ
    case hop =>
      refine ⟨?_, ?_, ?_, ?_, ?_, ?_, ?_, ?_, ?_, ?_, ?_, ?_, ?_, trivial⟩
      · refine ⟨rfl, Flag.pure (fun _ _ _ h => h) fun d c w' hd hdeps hcl hS => ?_⟩
        skip
        clear hS hdeps hcl hd
        unfold Oper.wp
        go_simp
        exact ⟨rfl, fun t ht => by injection ht with ht; subst ht; rfl, rfl⟩
      · refine ⟨rfl, Flag.pure (fun _ _ _ h => h) fun d c w' hd hdeps hcl hS => ?_⟩
        skip
        clear hS hdeps hcl hd
        unfold Oper.wp
        go_simp
        exact ⟨rfl, fun t ht => by injection ht with ht; subst ht; rfl, rfl⟩
      · refine ⟨rfl, Flag.pure (fun _ _ _ h => h) fun d c w' hd hdeps hcl hS => ?_⟩
        skip
        clear hS hdeps hcl hd
        unfold Oper.wp
        go_simp
        exact ⟨rfl, fun t ht => by injection ht with ht; subst ht; rfl, rfl⟩
      · refine ⟨rfl, Flag.pure (fun _ _ _ h => h) fun d c w' hd hdeps hcl hS => ?_⟩
        skip
        clear hS hdeps hcl hd
        unfold Oper.wp
        go_simp
        exact ⟨rfl, fun t ht => by injection ht with ht; subst ht; rfl, rfl⟩
      · refine ⟨rfl, Flag.pure (fun _ _ _ h => h) fun d c w' hd hdeps hcl hS => ?_⟩
        have s0 := (hS.1.cell (p := ⟨bv, ov + 1, none⟩) hbv).trans C1.out
        clear hS hdeps hcl hd
        unfold Oper.wp
        go_simp
        exact ⟨rfl, fun t ht => by injection ht with ht; subst ht; rfl, rfl⟩
      · refine ⟨rfl, fun d s w' hd hdeps hcl hS => ?_⟩
        have d9 := hcl.down (k := 9) (j := 5) rfl (by kernel_rfl) hd
        have HS := Lib.hid hS.1
        clear hS hdeps hcl
        unfold Oper.wp
        go_simp
        have hbw := Hb1.out.trans (HS.out.mono hz1)
        refine (l03Reach_any A' N c' E A n c ms y true true w' (Rd.more (Rd.below Hr.out HS.out) HS.out.size) HN.out (Rd.more (Rd.below Hx.out hbw) hbw.size) Hn.out hlen hn6' HE.out.mnd HE.out.mem HE.out.G hyl).mono ?_
        rintro e w2 ⟨q, rfl, hql, hB, hb2⟩
        refine FlagPost.two2 q 28 (.slice (some ⟨q, 0, none⟩) N N) 9 _ 32 (.pointer (some ⟨q, x, none⟩)) rfl rfl rfl ?_ rfl rfl rfl (by decide) d9
        exact ⟨HS.out.trans (hb2.mono HS.out.size), fun _ => hB⟩
      · refine ⟨rfl, Flag.pure (fun _ _ _ h => h) fun d c w' hd hdeps hcl hS => ?_⟩
        skip
        clear hS hdeps hcl hd
        unfold Oper.wp
        go_simp
        exact ⟨rfl, fun t ht => by injection ht with ht; subst ht; rfl, rfl⟩
      · refine ⟨rfl, Flag.pure (fun _ _ _ h => h) fun d c w' hd hdeps hcl hS => ?_⟩
        skip
        clear hS hdeps hcl hd
        unfold Oper.wp
        go_simp
        exact ⟨rfl, fun t ht => by injection ht with ht; subst ht; rfl, rfl⟩
      · refine ⟨rfl, Flag.pure (fun _ _ _ h => h) fun d c w' hd hdeps hcl hS => ?_⟩
        have s0 := (hS.1.cell (p := ⟨bv, ov, none⟩) hbv).trans C0.out
        clear hS hdeps hcl hd
        unfold Oper.wp
        go_simp
        exact ⟨rfl, fun t ht => by injection ht with ht; subst ht; rfl, rfl⟩
      · refine ⟨rfl, Flag.pure (fun _ _ _ h => h) fun d c w' hd hdeps hcl hS => ?_⟩
        skip
        clear hS hdeps hcl hd
        unfold Oper.wp
        go_simp
        exact ⟨rfl, fun t ht => by injection ht with ht; subst ht; rfl, rfl⟩
      · refine ⟨rfl, Flag.pure (fun _ _ _ h => h) fun d c w' hd hdeps hcl hS => ?_⟩
        have d9 := hdeps 9 (by kernel_rfl)
        have d5 := hcl.up (k := 9) (j := 5) rfl (by kernel_rfl) d9
        have s0 := (hS.2 d5).cell hxl
        rw [Ht.out] at s0
        clear d9 d5
        clear hS hdeps hcl hd
        unfold Oper.wp
        go_simp
        exact ⟨rfl, fun t ht => by injection ht with ht; subst ht; rfl, rfl⟩
      · refine ⟨rfl, Flag.pure (fun _ _ _ h => h) fun d c w' hd hdeps hcl hS => ?_⟩
        skip
        clear hS hdeps hcl hd
        unfold Oper.wp
        go_simp
        exact ⟨rfl, fun t ht => by injection ht with ht; subst ht; rfl, rfl⟩
      · refine ⟨rfl, Flag.pure (fun _ _ _ h => h) fun d c w' hd hdeps hcl hS => ?_⟩
        skip
        clear hS hdeps hcl hd
        unfold Oper.wp
        go_simp
        exact ⟨rfl, fun t ht => by injection ht with ht; subst ht; rfl, rfl⟩
    case hQ =>
      intro fl s we hall hS
      have Hbe := Lib.hid (Hbb.out.trans ((Hb1.out.trans (hS.1.mono hz1)).mono Hbb.out.size))
      clear hall hS
      go_wp2_with fail
      go_ret2
      exact ⟨by rw [Hc.out] <;> rfl, Hbe.out⟩
  · have hR : iuR ms f g = false := by unfold iuR; rw [decide_eq_false hc]; rfl
    have HR := Lib.hid hR
    have hne : (monC ms [f, g] != 0) = true := by simpa using hc
    clear hR hc
    go_enter Try.func57, Try.ntmps57
    go_wp2_with fail
    rw [← Hwb.out]
    refine (l03Given_any A (some ⟨w.heap.size + 2, 0, none⟩) n c 2 2 ms [f, g] wb Hx.out H7.out Hn.out rfl hb (by decide)).mono ?_
    rintro e w1 ⟨A', c', v, rfl, hr, hv, hb1⟩
    have Hb2 := Lib.hid (Hbb.out.trans (hb1.mono Hbb.out.size))
    obtain ⟨Av, cv, hvv, _⟩ := hv.form
    clear hr hb1 hv
    subst hvv
    go_wp2
    go_ret2
    exact ⟨by rw [HR.out] <;> rfl, Hb2.out⟩
set_option maxHeartbeats 1000000 in
theorem ImplIsUnder_any (A : Option Addr) (n c : Nat) (ms : List M) (f g : M) (w : World) (hx : RdM w w.heap.size A ms) (hn : ms.length = n) (hA : A = none → n = 0 ∧ c = 0) (hb : n < 536870912) :
    Calls Try.prog 58 #[.slice A n c, .agg (mc f), .agg (mc g)] w fun e w' => e = .returned (.tuple #[.bool (iuR ms f g), I (monC ms [f, g])]) ∧ Below w.heap.size w w' := by
  obtain ⟨wb, hwb⟩ : ∃ wb, wb = ((w.alloc (.cells (mc f) 31)).alloc (.cells (mc g) 31)).alloc (.cells #[I f.p, I f.t0, I f.t1, I f.t2, I f.t3, I f.t4, I g.p, I g.t0, I g.t1, I g.t2, I g.t3, I g.t4] 31) := ⟨_, rfl⟩
  have hbb : Below w.heap.size w wb := by rw [hwb]; exact (((Below.refl _ _).alloc (Nat.le_refl _) _).alloc (by simp) _).alloc (by simp; omega) _
  have h7 : RdM wb wb.heap.size (some ⟨w.heap.size + 2, 0, none⟩) [f, g] := by rw [hwb]; exact rd_two (Blk.new' _ _ _ (by simp))
  have Hx := Lib.hid (Rd.more (Rd.below hx hbb) hbb.size)
  have Hn := Lib.hid hn
  have HA := Lib.hid hA
  have H7 := Lib.hid h7
  have Hbb := Lib.hid hbb
  have Hwb := Lib.hid hwb
  clear hx hn hA h7 hbb hwb
  by_cases hc : monC ms [f, g] = 0
  · obtain ⟨E, ps, hE, hin⟩ := monC_el hc
    have hfE := hin f (by simp)
    have hgE := hin g (by simp)
    have hR : iuR ms f g = decide (JJ E g f) := by unfold iuR; rw [decide_eq_true hc, Bool.true_and, hE.r]
    have hlen := hE.len
    have hn6 := hE.n6
    obtain ⟨x, hxx⟩ : ∃ x, x = ix E f := ⟨_, rfl⟩
    obtain ⟨y, hyy⟩ : ∃ y, y = ix E g := ⟨_, rfl⟩
    have hxl : x < E.length := by rw [hxx]; exact ix_lt hfE
    have hyl : y < E.length := by rw [hyy]; exact ix_lt hgE
    obtain ⟨t, ht⟩ : ∃ t, t = iuR ms f g := ⟨_, rfl⟩
    have Ht : Hid (jSet E y x = t) := by
      show _ = _
      unfold jSet
      rw [ht, hR, decide_eq_true hxl, Bool.true_and, hxx, hyy, gm_ix hfE, gm_ix hgE]
    have Hxx := Lib.hid hxx
    have Hyy := Lib.hid hyy
    obtain ⟨N, hN⟩ : ∃ N, E.length = N := ⟨_, rfl⟩
    rw [hN] at hlen hxl hyl
    have HN := Lib.hid hN
    have HE := Lib.hid hE
    have Hc := Lib.hid hc
    have hxz : (x : Int) < (N : Int) := by omega
    have hn6' : n ≤ 6 := by rw [← Hn.out]; exact hn6
    rw [← ht]
    have hx3 : x < 320 := by omega
    clear hE hc hR hin hxx hyy ht hN hfE hgE hn6
    go_enter Try.func58, Try.ntmps58
    go_wp2_with fail
    rw [← Hwb.out]
    refine (monoidOf_any A (some ⟨w.heap.size + 2, 0, none⟩) n c 2 2 ms [f, g] wb Hx.out H7.out Hn.out rfl HA.out (fun h => (by cases h)) (by omega)).mono ?_
    rintro e w1 ⟨r, v, rfl, hb1, hr0, hs⟩
    obtain ⟨g0, rfl, hM, hv⟩ := hs ps HE.out.clo Hc.out
    rw [← HE.out.eq] at hM hv
    simp only [List.map_cons, List.map_nil] at hv
    rw [← Hxx.out, ← Hyy.out] at hv
    rw [Hc.out]
    obtain ⟨Av, cv, hvv, hrv⟩ := hv.form
    subst hvv
    obtain ⟨bv, ov, e, hbv, c0⟩ := RdI.at_ hrv (k := 0) (by simp)
    subst e
    obtain ⟨bv', ov', e, _, c1⟩ := RdI.at_ hrv (k := 1) (by simp)
    injection e with e
    injection e with e1 e2 _
    subst e1 e2
    rw [Nat.add_zero] at c0
    have C0 : Hid (w1.cell? ⟨bv, ov, none⟩ = some (I x)) := c0
    have C1 : Hid (w1.cell? ⟨bv, ov + 1, none⟩ = some (I y)) := c1
    have HM := Lib.hid hM
    have Hb1 := Lib.hid hb1
    have hz1 := hb1.size
    clear hM hs hr0 hv hrv hb1 c0 c1
    simp only [List.length_cons, List.length_nil, Nat.zero_add]
    go_wp2_with fail
    refine wp_region_flags [] rfl (by kernel_rfl) (by kernel_rfl) [] (by kernel_rfl) _
      (fun s : Nat × Nat => [.pointer (some ⟨g0, 0, none⟩), .pointer (some ⟨s.1, 0, none⟩), .pointer (some ⟨s.1, 0, none⟩), .pointer (some ⟨s.1, 2, none⟩), .slice (some ⟨s.2, 0, none⟩) N N, .slice (some ⟨bv, ov, none⟩) 2 cv, .pointer (some ⟨bv, ov + 1, none⟩), I y, .pointer (some ⟨s.2, y * 5, none⟩), .slice (some ⟨bv, ov, none⟩) 2 cv, .pointer (some ⟨bv, ov, none⟩), I x, .bool t, .bool t, I 0])
      (by intro s; simp only [putAll, List.setIfInBounds_toArray, List.set_cons_succ, List.set_cons_zero]; rfl)
      [] rfl _
      (by intro s; simp only [setAll, List.setIfInBounds_toArray, List.set_cons_succ, List.set_cons_zero]; rfl) (by kernel_rfl)
      (fun d s w' => Below w1.heap.size w1 w' ∧ (d 1 = true → ∃ gl gr, Ide w' s.1 N gl gr s.2 (lSet E) (rSet E) (jSet E)))
      (0, 0) ⟨(Below.refl _ _).drew, by simp⟩ ?hop ?hQ
    case hop =>
      refine ⟨?_, ?_, ?_, ?_, ?_, ?_, ?_, ?_, ?_, ?_, ?_, ?_, ?_, ?_, ?_, trivial⟩
      · refine ⟨rfl, Flag.pure (fun _ _ _ h => h) fun d c w' hd hdeps hcl hS => ?_⟩
        skip
        clear hS hdeps hcl hd
        unfold Oper.wp
        go_simp
        exact ⟨rfl, fun t ht => by injection ht with ht; subst ht; rfl, rfl⟩
      · refine ⟨rfl, fun d s w' hd hdeps hcl hS => ?_⟩
        have d2 := hcl.down (k := 2) (j := 1) rfl (by kernel_rfl) hd
        have d3 := hcl.down (k := 3) (j := 2) rfl (by kernel_rfl) d2
        have d4 := hcl.down (k := 4) (j := 3) rfl (by kernel_rfl) d3
        have d8 := hcl.down (k := 8) (j := 4) rfl (by kernel_rfl) d4
        have HS := Lib.hid hS.1
        clear hS hdeps hcl
        unfold Oper.wp
        go_simp
        refine (ideals_any w' ((HM.out.below HS.out (Nat.le_refl _))) (by rw [HN.out]; exact hlen) HE.out.mnd).mono ?_
        rintro e w2 ⟨q, rfl, ⟨gl, gr, gb, hI⟩, hb2⟩
        rw [HN.out] at hI
        refine ⟨(q, gb), [(24, .pointer (some ⟨q, 0, none⟩)), (25, .pointer (some ⟨q, 0, none⟩)), (26, .pointer (some ⟨q, 2, none⟩)), (27, .slice (some ⟨gb, 0, none⟩) N N), (31, .pointer (some ⟨gb, y * 5, none⟩))], ⟨rfl, fun t ht => by injection ht with ht; subst ht; rfl⟩, ⟨HS.out.trans (hb2.mono HS.out.size), fun _ => ⟨gl, gr, hI⟩⟩, rfl, fun p hp => ?_⟩
        simp only [List.mem_cons, List.not_mem_nil, or_false] at hp
        rcases hp with rfl | rfl | rfl | rfl | rfl
        · exact .inl rfl
        · exact .inr ⟨2, _, rfl, rfl, by decide, d2⟩
        · exact .inr ⟨3, _, rfl, rfl, by decide, d3⟩
        · exact .inr ⟨4, _, rfl, rfl, by decide, d4⟩
        · exact .inr ⟨8, _, rfl, rfl, by decide, d8⟩
      · refine ⟨rfl, Flag.pure (fun _ _ _ h => h) fun d c w' hd hdeps hcl hS => ?_⟩
        skip
        clear hS hdeps hcl hd
        unfold Oper.wp
        go_simp
        exact ⟨rfl, fun t ht => by injection ht with ht; subst ht; rfl, rfl⟩
      · refine ⟨rfl, Flag.pure (fun _ _ _ h => h) fun d c w' hd hdeps hcl hS => ?_⟩
        skip
        clear hS hdeps hcl hd
        unfold Oper.wp
        go_simp
        exact ⟨rfl, fun t ht => by injection ht with ht; subst ht; rfl, rfl⟩
      · refine ⟨rfl, Flag.pure (fun _ _ _ h => h) fun d c w' hd hdeps hcl hS => ?_⟩
        have d3 := hdeps 3 (by kernel_rfl)
        have d2 := hcl.up (k := 3) (j := 2) rfl (by kernel_rfl) d3
        have d1 := hcl.up (k := 2) (j := 1) rfl (by kernel_rfl) d2
        obtain ⟨gl, gr, hI⟩ := hS.2 d1
        have s0 := hI.c2
        clear d3 d2 d1 hI
        clear hS hdeps hcl hd
        unfold Oper.wp
        go_simp
        exact ⟨rfl, fun t ht => by injection ht with ht; subst ht; rfl, rfl⟩
      · refine ⟨rfl, Flag.pure (fun _ _ _ h => h) fun d c w' hd hdeps hcl hS => ?_⟩
        skip
        clear hS hdeps hcl hd
        unfold Oper.wp
        go_simp
        exact ⟨rfl, fun t ht => by injection ht with ht; subst ht; rfl, rfl⟩
      · refine ⟨rfl, Flag.pure (fun _ _ _ h => h) fun d c w' hd hdeps hcl hS => ?_⟩
        skip
        clear hS hdeps hcl hd
        unfold Oper.wp
        go_simp
        exact ⟨rfl, fun t ht => by injection ht with ht; subst ht; rfl, rfl⟩
      · refine ⟨rfl, Flag.pure (fun _ _ _ h => h) fun d c w' hd hdeps hcl hS => ?_⟩
        have s0 := (hS.1.cell (p := ⟨bv, ov + 1, none⟩) hbv).trans C1.out
        clear hS hdeps hcl hd
        unfold Oper.wp
        go_simp
        exact ⟨rfl, fun t ht => by injection ht with ht; subst ht; rfl, rfl⟩
      · refine ⟨rfl, Flag.pure (fun _ _ _ h => h) fun d c w' hd hdeps hcl hS => ?_⟩
        skip
        clear hS hdeps hcl hd
        unfold Oper.wp
        go_simp
        exact ⟨rfl, fun t ht => by injection ht with ht; subst ht; rfl, rfl⟩
      · refine ⟨rfl, Flag.pure (fun _ _ _ h => h) fun d c w' hd hdeps hcl hS => ?_⟩
        skip
        clear hS hdeps hcl hd
        unfold Oper.wp
        go_simp
        exact ⟨rfl, fun t ht => by injection ht with ht; subst ht; rfl, rfl⟩
      · refine ⟨rfl, Flag.pure (fun _ _ _ h => h) fun d c w' hd hdeps hcl hS => ?_⟩
        skip
        clear hS hdeps hcl hd
        unfold Oper.wp
        go_simp
        exact ⟨rfl, fun t ht => by injection ht with ht; subst ht; rfl, rfl⟩
      · refine ⟨rfl, Flag.pure (fun _ _ _ h => h) fun d c w' hd hdeps hcl hS => ?_⟩
        have s0 := (hS.1.cell (p := ⟨bv, ov, none⟩) hbv).trans C0.out
        clear hS hdeps hcl hd
        unfold Oper.wp
        go_simp
        exact ⟨rfl, fun t ht => by injection ht with ht; subst ht; rfl, rfl⟩
      · refine ⟨rfl, Flag.pure (fun _ _ _ h => h) fun d s w' hd hdeps hcl hS => ?_⟩
        have d8 := hdeps 8 (by kernel_rfl)
        have d4 := hcl.up (k := 8) (j := 4) rfl (by kernel_rfl) d8
        have d3 := hcl.up (k := 4) (j := 3) rfl (by kernel_rfl) d4
        have d2 := hcl.up (k := 3) (j := 2) rfl (by kernel_rfl) d3
        have d1 := hcl.up (k := 2) (j := 1) rfl (by kernel_rfl) d2
        obtain ⟨gl, gr, hI⟩ := hS.2 d1
        have HI := Lib.hid hI
        clear hS hdeps hcl hd hI
        unfold Oper.wp
        go_simp
        refine (has_any w' HI.out.b hyl hx3).mono ?_
        rintro e w2 ⟨rfl, rfl⟩
        rw [Ht.out]
        exact ⟨rfl, fun t ht => by injection ht with ht; subst ht; rfl, rfl⟩
      · refine ⟨rfl, Flag.pure (fun _ _ _ h => h) fun d c w' hd hdeps hcl hS => ?_⟩
        skip
        clear hS hdeps hcl hd
        unfold Oper.wp
        go_simp
        exact ⟨rfl, fun t ht => by injection ht with ht; subst ht; rfl, rfl⟩
      · refine ⟨rfl, Flag.pure (fun _ _ _ h => h) fun d c w' hd hdeps hcl hS => ?_⟩
        skip
        clear hS hdeps hcl hd
        unfold Oper.wp
        go_simp
        exact ⟨rfl, fun t ht => by injection ht with ht; subst ht; rfl, rfl⟩
    case hQ =>
      intro fl s we hall hS
      have Hbe := Lib.hid (Hbb.out.trans ((Hb1.out.trans (hS.1.mono hz1)).mono Hbb.out.size))
      clear hall hS
      go_wp2_with fail
      go_ret2
      exact ⟨by rw [Hc.out] <;> rfl, Hbe.out⟩
  · have hR : iuR ms f g = false := by unfold iuR; rw [decide_eq_false hc]; rfl
    have HR := Lib.hid hR
    have hne : (monC ms [f, g] != 0) = true := by simpa using hc
    clear hR hc
    go_enter Try.func58, Try.ntmps58
    go_wp2_with fail
    rw [← Hwb.out]
    refine (monoidOf_any A (some ⟨w.heap.size + 2, 0, none⟩) n c 2 2 ms [f, g] wb Hx.out H7.out Hn.out rfl HA.out (fun h => (by cases h)) (by omega)).mono ?_
    rintro e w1 ⟨r, v, rfl, hb1, hr0, hs⟩
    have Hb2 := Lib.hid (Hbb.out.trans (hb1.mono Hbb.out.size))
    have hrn := (hr0 (by simpa using hne)).1
    subst hrn
    clear hb1 hr0 hs
    go_wp2
    go_ret2
    exact ⟨by rw [HR.out] <;> rfl, Hb2.out⟩
end Go.Proofs.Ytknknljkmkfmoaa
