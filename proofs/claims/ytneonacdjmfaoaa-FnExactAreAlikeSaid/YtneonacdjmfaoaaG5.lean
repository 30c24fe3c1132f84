/- Contract of the comparison of two elements by their ideals; the monoid has at most 300 elements. -/
import Derived.Test.YtneonacdjmfaoaaG4
namespace Go.Proofs.Ytneonacdjmfaoaa
open Go.RowKit
set_option maxRecDepth 100000
set_option linter.unusedSimpArgs false
set_option linter.unusedVariables false

theorem beqU (a b : Nat) : (((a : Int)) == ((b : Int))) = (a == b) := by rw [Bool.eq_iff_iff, beq_iff_eq, beq_iff_eq]; omega
abbrev TU : TypeId := 101
theorem run_sizeU (w : World) : Sem.run Try.prog (Go.sizeOf TU) w = .ok 1 w := by kernel_rfl
theorem part_u0 (a b c d e : Nat) (w : World) : Sem.run Try.prog (Go.part TU #[U a, U b, U c, U d, U e] 0) w = .ok (U a) w := by kernel_rfl
theorem part_u1 (a b c d e : Nat) (w : World) : Sem.run Try.prog (Go.part TU #[U a, U b, U c, U d, U e] 1) w = .ok (U b) w := by kernel_rfl
theorem part_u2 (a b c d e : Nat) (w : World) : Sem.run Try.prog (Go.part TU #[U a, U b, U c, U d, U e] 2) w = .ok (U c) w := by kernel_rfl
theorem part_u3 (a b c d e : Nat) (w : World) : Sem.run Try.prog (Go.part TU #[U a, U b, U c, U d, U e] 3) w = .ok (U d) w := by kernel_rfl
theorem part_u4 (a b c d e : Nat) (w : World) : Sem.run Try.prog (Go.part TU #[U a, U b, U c, U d, U e] 4) w = .ok (U e) w := by kernel_rfl
theorem eqSet_run0 (dd : Nat) (a0 a1 a2 a3 a4 b0 b1 b2 b3 b4 : Nat) (w : World) : Sem.run Try.prog (Op.equalIn (dd+2) TS (.agg #[U a0, U a1, U a2, U a3, U a4]) (.agg #[U b0, U b1, U b2, U b3, U b4])) w = .ok (a0 == b0 && (a1 == b1 && (a2 == b2 && (a3 == b3 && a4 == b4)))) w := by
  have hI : Try.prog.underlying TU = some (.int .u64) := Try.underlying101
  have h23 := Try.underlying117
  have h0 := beqU a0 b0
  have h1 := beqU a1 b1
  have h2 := beqU a2 b2
  have h3 := beqU a3 b3
  have h4 := beqU a4 b4
  rw [show dd + 2 = (dd+1)+1 from rfl]
  unfold Op.equalIn
  simp only [Sem.run_bind, run_underlying h23, Result.andThen_ok, run_sizeU]
  simp only [Std.Legacy.Range.forIn_eq_forIn_range', Std.Legacy.Range.size, List.range'_succ, List.range'_zero, List.forIn_cons, List.forIn_nil]
  simp [Sem.run_bind, part_u0, part_u1, part_u2, part_u3, part_u4, run_equalIn_int _ dd TU _ _ _ _ hI, h0, h1, h2, h3, h4]
  by_cases h0 : a0 = b0
  · by_cases h1 : a1 = b1
    · by_cases h2 : a2 = b2
      · by_cases h3 : a3 = b3
        · by_cases h4 : a4 = b4 <;> simp [*]
        · simp [*]
      · simp [*]
    · simp [*]
  · simp [*]
theorem eqSet_run (p p' : Nat → Bool) (w : World) : Sem.run Try.prog (Op.equalIn 10000 TS (.agg (sc p)) (.agg (sc p'))) w = .ok (setEq p p') w := by
  rw [setEq_wd]
  exact eqSet_run0 9998 _ _ _ _ _ _ _ _ _ _ w
theorem same_full (E : List M) (i k : Nat) : sameK E 2 i k = (sameK E 0 i k && sameK E 1 i k) := by
  rw [sameK_0, sameK_1, sameK_2, Bool.eq_iff_iff, Bool.and_eq_true, decide_eq_true_eq, decide_eq_true_eq, decide_eq_true_eq]
  rfl
theorem same_else {E : List M} {kind : Int} {i k : Nat} (h0 : kind ≠ 0) (h1 : kind ≠ 1) (h2 : kind ≠ 2) : sameK E kind i k = sameK E 3 i k := by
  unfold sameK; simp [h0, h1, h2]

set_option maxHeartbeats 2000000 in
theorem alike_any {d i k : Nat} {n kind : Int} {E : List M} (w : World) (h : IdeAt w d E) (hE : E.length ≤ 300) (hm : Mnd n E) (hi : i < E.length) (hk : k < E.length) :
    Calls Try.prog 51 #[.pointer (some ⟨d, 0, none⟩), I i, I k, I kind] w fun e w' => e = .returned (.bool (sameK E kind i k)) ∧ Below w.heap.size w w' := by
  obtain ⟨gl, gr, gb, hI⟩ := h
  obtain ⟨N, hN⟩ : ∃ N, E.length = N := ⟨_, rfl⟩
  have hiE := hi
  have hkE := hk
  rw [hN] at hI hi hk
  have HI := Lib.hid hI
  have HE := Lib.hid hE
  have Hm := Lib.hid hm
  have hiz : (i : Int) < (N : Int) := by omega
  have hkz : (k : Int) < (N : Int) := by omega
  clear hI hE hm hN
  by_cases h0 : kind = 0
  · subst h0
    have hb0 : ((0 : Int) == 0) = true := rfl
    have Hs := Lib.hid (lSet_eq Hm.out HE.out hiE hkE)
    have heq := eqSet_run (lSet E i) (lSet E k)
    obtain ⟨t, ht⟩ : ∃ t, t = setEq (lSet E i) (lSet E k) := ⟨_, rfl⟩
    rw [← ht] at heq
    have Ht := Lib.hid ht
    clear ht
    go_enter Try.func51, Try.ntmps51
    go_wp2_with fail
    refine wp_region_same [] rfl (by kernel_rfl) (by kernel_rfl) (by kernel_rfl) (fun w' => Below w.heap.size w w') _
      [.pointer (some ⟨d, 0, none⟩), .pointer (some ⟨d, 0, none⟩), .pointer (some ⟨d, 0, none⟩), .slice (some ⟨gl, 0, none⟩) N N, I i, .pointer (some ⟨gl, i * 5, none⟩), .agg (sc (lSet E i)), .pointer (some ⟨d, 0, none⟩), .pointer (some ⟨d, 0, none⟩), .pointer (some ⟨d, 0, none⟩), .slice (some ⟨gl, 0, none⟩) N N, I k, .pointer (some ⟨gl, k * 5, none⟩), .agg (sc (lSet E k)), .bool t, .bool t]
      (by simp only [putAll, List.setIfInBounds_toArray, List.set_cons_succ, List.set_cons_zero]; rfl) (Below.refl _ _).drew ?hop ?hQ
    case hop =>
      refine FixBL.toL (fun w' w'' hS hb => hS.trans (hb.mono hS.size)) _ _ ?_
      refine ⟨.inr ?_, .inr ?_, .inr ?_, .inr ?_, .inr ?_, .inr ?_, .inr ?_, .inr ?_, .inr ?_, .inr ?_, .inr ?_, .inr ?_, .inr ?_, .inr ?_, .inr ?_, .inr ?_, trivial⟩
      · (with_reducible refine FixB.of ?_ ?_; rfl; intro w' hS; have s9 := HI.out.below hS (Nat.le_refl _); have s0 := s9.c0; have s1 := s9.l.five hi; have s2 := s9.l.five hk; clear s9 hS; unfold Oper.wp; go_simp; first | done | exact Below.refl _ _)
      · (with_reducible refine FixB.of ?_ ?_; rfl; intro w' hS; have s9 := HI.out.below hS (Nat.le_refl _); have s0 := s9.c0; have s1 := s9.l.five hi; have s2 := s9.l.five hk; clear s9 hS; unfold Oper.wp; go_simp; first | done | exact Below.refl _ _)
      · (with_reducible refine FixB.of ?_ ?_; rfl; intro w' hS; have s9 := HI.out.below hS (Nat.le_refl _); have s0 := s9.c0; have s1 := s9.l.five hi; have s2 := s9.l.five hk; clear s9 hS; unfold Oper.wp; go_simp; first | done | exact Below.refl _ _)
      · (with_reducible refine FixB.of ?_ ?_; rfl; intro w' hS; have s9 := HI.out.below hS (Nat.le_refl _); have s0 := s9.c0; have s1 := s9.l.five hi; have s2 := s9.l.five hk; clear s9 hS; unfold Oper.wp; go_simp; first | done | exact Below.refl _ _)
      · (with_reducible refine FixB.of ?_ ?_; rfl; intro w' hS; have s9 := HI.out.below hS (Nat.le_refl _); have s0 := s9.c0; have s1 := s9.l.five hi; have s2 := s9.l.five hk; clear s9 hS; unfold Oper.wp; go_simp; first | done | exact Below.refl _ _)
      · (with_reducible refine FixB.of ?_ ?_; rfl; intro w' hS; have s9 := HI.out.below hS (Nat.le_refl _); have s0 := s9.c0; have s1 := s9.l.five hi; have s2 := s9.l.five hk; clear s9 hS; unfold Oper.wp; go_simp; first | done | exact Below.refl _ _)
      · (with_reducible refine FixB.of ?_ ?_; rfl; intro w' hS; have s9 := HI.out.below hS (Nat.le_refl _); have s0 := s9.c0; have s1 := s9.l.five hi; have s2 := s9.l.five hk; clear s9 hS; unfold Oper.wp; go_simp; first | done | exact Below.refl _ _)
      · (with_reducible refine FixB.of ?_ ?_; rfl; intro w' hS; have s9 := HI.out.below hS (Nat.le_refl _); have s0 := s9.c0; have s1 := s9.l.five hi; have s2 := s9.l.five hk; clear s9 hS; unfold Oper.wp; go_simp; first | done | exact Below.refl _ _)
      · (with_reducible refine FixB.of ?_ ?_; rfl; intro w' hS; have s9 := HI.out.below hS (Nat.le_refl _); have s0 := s9.c0; have s1 := s9.l.five hi; have s2 := s9.l.five hk; clear s9 hS; unfold Oper.wp; go_simp; first | done | exact Below.refl _ _)
      · (with_reducible refine FixB.of ?_ ?_; rfl; intro w' hS; have s9 := HI.out.below hS (Nat.le_refl _); have s0 := s9.c0; have s1 := s9.l.five hi; have s2 := s9.l.five hk; clear s9 hS; unfold Oper.wp; go_simp; first | done | exact Below.refl _ _)
      · (with_reducible refine FixB.of ?_ ?_; rfl; intro w' hS; have s9 := HI.out.below hS (Nat.le_refl _); have s0 := s9.c0; have s1 := s9.l.five hi; have s2 := s9.l.five hk; clear s9 hS; unfold Oper.wp; go_simp; first | done | exact Below.refl _ _)
      · (with_reducible refine FixB.of ?_ ?_; rfl; intro w' hS; have s9 := HI.out.below hS (Nat.le_refl _); have s0 := s9.c0; have s1 := s9.l.five hi; have s2 := s9.l.five hk; clear s9 hS; unfold Oper.wp; go_simp; first | done | exact Below.refl _ _)
      · (with_reducible refine FixB.of ?_ ?_; rfl; intro w' hS; have s9 := HI.out.below hS (Nat.le_refl _); have s0 := s9.c0; have s1 := s9.l.five hi; have s2 := s9.l.five hk; clear s9 hS; unfold Oper.wp; go_simp; first | done | exact Below.refl _ _)
      · (with_reducible refine FixB.of ?_ ?_; rfl; intro w' hS; have s9 := HI.out.below hS (Nat.le_refl _); have s0 := s9.c0; have s1 := s9.l.five hi; have s2 := s9.l.five hk; clear s9 hS; unfold Oper.wp; go_simp; first | done | exact Below.refl _ _)
      · (with_reducible refine FixB.of ?_ ?_; rfl; intro w' hS; have s9 := HI.out.below hS (Nat.le_refl _); have s0 := s9.c0; have s1 := s9.l.five hi; have s2 := s9.l.five hk; clear s9 hS; unfold Oper.wp; go_simp; first | done | exact Below.refl _ _)
      · (with_reducible refine FixB.of ?_ ?_; rfl; intro w' hS; have s9 := HI.out.below hS (Nat.le_refl _); have s0 := s9.c0; have s1 := s9.l.five hi; have s2 := s9.l.five hk; clear s9 hS; unfold Oper.wp; go_simp; first | done | exact Below.refl _ _)
    case hQ =>
    intro wc hS _
    have HB2 := Lib.hid hS
    clear hS
    go_wp2
    go_ret
    exact ⟨by rw [← Hs.out, ← Ht.out] <;> rfl, HB2.out⟩
  · have hb0 : (kind == 0) = false := by simpa using h0
    by_cases h1 : kind = 1
    · subst h1
      have Hs := Lib.hid (rSet_eq Hm.out HE.out hiE hkE)
      have heq := eqSet_run (rSet E i) (rSet E k)
      obtain ⟨t, ht⟩ : ∃ t, t = setEq (rSet E i) (rSet E k) := ⟨_, rfl⟩
      rw [← ht] at heq
      have Ht := Lib.hid ht
      clear ht
      go_enter Try.func51, Try.ntmps51
      go_wp2_with fail
      refine wp_region_same [] rfl (by kernel_rfl) (by kernel_rfl) (by kernel_rfl) (fun w' => Below w.heap.size w w') _
        [.pointer (some ⟨d, 0, none⟩), .pointer (some ⟨d, 0, none⟩), .pointer (some ⟨d, 1, none⟩), .slice (some ⟨gr, 0, none⟩) N N, I i, .pointer (some ⟨gr, i * 5, none⟩), .agg (sc (rSet E i)), .pointer (some ⟨d, 0, none⟩), .pointer (some ⟨d, 0, none⟩), .pointer (some ⟨d, 1, none⟩), .slice (some ⟨gr, 0, none⟩) N N, I k, .pointer (some ⟨gr, k * 5, none⟩), .agg (sc (rSet E k)), .bool t, .bool t]
        (by simp only [putAll, List.setIfInBounds_toArray, List.set_cons_succ, List.set_cons_zero]; rfl) (Below.refl _ _).drew ?hop ?hQ
      case hop =>
        refine FixBL.toL (fun w' w'' hS hb => hS.trans (hb.mono hS.size)) _ _ ?_
        refine ⟨.inr ?_, .inr ?_, .inr ?_, .inr ?_, .inr ?_, .inr ?_, .inr ?_, .inr ?_, .inr ?_, .inr ?_, .inr ?_, .inr ?_, .inr ?_, .inr ?_, .inr ?_, .inr ?_, trivial⟩
        · (with_reducible refine FixB.of ?_ ?_; rfl; intro w' hS; have s9 := HI.out.below hS (Nat.le_refl _); have s0 := s9.c1; have s1 := s9.r.five hi; have s2 := s9.r.five hk; clear s9 hS; unfold Oper.wp; go_simp; first | done | exact Below.refl _ _)
        · (with_reducible refine FixB.of ?_ ?_; rfl; intro w' hS; have s9 := HI.out.below hS (Nat.le_refl _); have s0 := s9.c1; have s1 := s9.r.five hi; have s2 := s9.r.five hk; clear s9 hS; unfold Oper.wp; go_simp; first | done | exact Below.refl _ _)
        · (with_reducible refine FixB.of ?_ ?_; rfl; intro w' hS; have s9 := HI.out.below hS (Nat.le_refl _); have s0 := s9.c1; have s1 := s9.r.five hi; have s2 := s9.r.five hk; clear s9 hS; unfold Oper.wp; go_simp; first | done | exact Below.refl _ _)
        · (with_reducible refine FixB.of ?_ ?_; rfl; intro w' hS; have s9 := HI.out.below hS (Nat.le_refl _); have s0 := s9.c1; have s1 := s9.r.five hi; have s2 := s9.r.five hk; clear s9 hS; unfold Oper.wp; go_simp; first | done | exact Below.refl _ _)
        · (with_reducible refine FixB.of ?_ ?_; rfl; intro w' hS; have s9 := HI.out.below hS (Nat.le_refl _); have s0 := s9.c1; have s1 := s9.r.five hi; have s2 := s9.r.five hk; clear s9 hS; unfold Oper.wp; go_simp; first | done | exact Below.refl _ _)
        · (with_reducible refine FixB.of ?_ ?_; rfl; intro w' hS; have s9 := HI.out.below hS (Nat.le_refl _); have s0 := s9.c1; have s1 := s9.r.five hi; have s2 := s9.r.five hk; clear s9 hS; unfold Oper.wp; go_simp; first | done | exact Below.refl _ _)
        · (with_reducible refine FixB.of ?_ ?_; rfl; intro w' hS; have s9 := HI.out.below hS (Nat.le_refl _); have s0 := s9.c1; have s1 := s9.r.five hi; have s2 := s9.r.five hk; clear s9 hS; unfold Oper.wp; go_simp; first | done | exact Below.refl _ _)
        · (with_reducible refine FixB.of ?_ ?_; rfl; intro w' hS; have s9 := HI.out.below hS (Nat.le_refl _); have s0 := s9.c1; have s1 := s9.r.five hi; have s2 := s9.r.five hk; clear s9 hS; unfold Oper.wp; go_simp; first | done | exact Below.refl _ _)
        · (with_reducible refine FixB.of ?_ ?_; rfl; intro w' hS; have s9 := HI.out.below hS (Nat.le_refl _); have s0 := s9.c1; have s1 := s9.r.five hi; have s2 := s9.r.five hk; clear s9 hS; unfold Oper.wp; go_simp; first | done | exact Below.refl _ _)
        · (with_reducible refine FixB.of ?_ ?_; rfl; intro w' hS; have s9 := HI.out.below hS (Nat.le_refl _); have s0 := s9.c1; have s1 := s9.r.five hi; have s2 := s9.r.five hk; clear s9 hS; unfold Oper.wp; go_simp; first | done | exact Below.refl _ _)
        · (with_reducible refine FixB.of ?_ ?_; rfl; intro w' hS; have s9 := HI.out.below hS (Nat.le_refl _); have s0 := s9.c1; have s1 := s9.r.five hi; have s2 := s9.r.five hk; clear s9 hS; unfold Oper.wp; go_simp; first | done | exact Below.refl _ _)
        · (with_reducible refine FixB.of ?_ ?_; rfl; intro w' hS; have s9 := HI.out.below hS (Nat.le_refl _); have s0 := s9.c1; have s1 := s9.r.five hi; have s2 := s9.r.five hk; clear s9 hS; unfold Oper.wp; go_simp; first | done | exact Below.refl _ _)
        · (with_reducible refine FixB.of ?_ ?_; rfl; intro w' hS; have s9 := HI.out.below hS (Nat.le_refl _); have s0 := s9.c1; have s1 := s9.r.five hi; have s2 := s9.r.five hk; clear s9 hS; unfold Oper.wp; go_simp; first | done | exact Below.refl _ _)
        · (with_reducible refine FixB.of ?_ ?_; rfl; intro w' hS; have s9 := HI.out.below hS (Nat.le_refl _); have s0 := s9.c1; have s1 := s9.r.five hi; have s2 := s9.r.five hk; clear s9 hS; unfold Oper.wp; go_simp; first | done | exact Below.refl _ _)
        · (with_reducible refine FixB.of ?_ ?_; rfl; intro w' hS; have s9 := HI.out.below hS (Nat.le_refl _); have s0 := s9.c1; have s1 := s9.r.five hi; have s2 := s9.r.five hk; clear s9 hS; unfold Oper.wp; go_simp; first | done | exact Below.refl _ _)
        · (with_reducible refine FixB.of ?_ ?_; rfl; intro w' hS; have s9 := HI.out.below hS (Nat.le_refl _); have s0 := s9.c1; have s1 := s9.r.five hi; have s2 := s9.r.five hk; clear s9 hS; unfold Oper.wp; go_simp; first | done | exact Below.refl _ _)
      case hQ =>
      intro wc hS _
      have HB2 := Lib.hid hS
      clear hS
      go_wp2
      go_ret
      exact ⟨by rw [← Hs.out, ← Ht.out] <;> rfl, HB2.out⟩
    · have hb1 : (kind == 1) = false := by simpa using h1
      by_cases h2 : kind = 2
      · subst h2
        have Hs := Lib.hid (lSet_eq Hm.out HE.out hiE hkE)
        have Hs2 := Lib.hid (rSet_eq Hm.out HE.out hiE hkE)
        have heq := eqSet_run (lSet E i) (lSet E k)
        have heq2 := eqSet_run (rSet E i) (rSet E k)
        obtain ⟨t, ht⟩ : ∃ t, t = setEq (lSet E i) (lSet E k) := ⟨_, rfl⟩
        obtain ⟨u, hu⟩ : ∃ u, u = setEq (rSet E i) (rSet E k) := ⟨_, rfl⟩
        rw [← ht] at heq
        rw [← hu] at heq2
        have Ht := Lib.hid ht
        have Hu := Lib.hid hu
        clear ht hu
        cases t
        · clear heq2
          go_enter Try.func51, Try.ntmps51
          go_wp2_with fail
          refine wp_region_same [] rfl (by kernel_rfl) (by kernel_rfl) (by kernel_rfl) (fun w' => Below w.heap.size w w') _
            [.pointer (some ⟨d, 0, none⟩), .pointer (some ⟨d, 0, none⟩), .pointer (some ⟨d, 0, none⟩), .slice (some ⟨gl, 0, none⟩) N N, I i, .pointer (some ⟨gl, i * 5, none⟩), .agg (sc (lSet E i)), .pointer (some ⟨d, 0, none⟩), .pointer (some ⟨d, 0, none⟩), .pointer (some ⟨d, 0, none⟩), .slice (some ⟨gl, 0, none⟩) N N, I k, .pointer (some ⟨gl, k * 5, none⟩), .agg (sc (lSet E k)), .bool false, .bool false, undef, undef, undef, undef, undef, undef, undef, undef, undef, undef, undef, undef, undef, undef, undef, .bool false, .bool false]
            (by simp only [putAll, List.setIfInBounds_toArray, List.set_cons_succ, List.set_cons_zero]; rfl) (Below.refl _ _).drew ?hop ?hQ
          case hop =>
            refine FixBL.toL (fun w' w'' hS hb => hS.trans (hb.mono hS.size)) _ _ ?_
            refine ⟨.inr ?_, .inr ?_, .inr ?_, .inr ?_, .inr ?_, .inr ?_, .inr ?_, .inr ?_, .inr ?_, .inr ?_, .inr ?_, .inr ?_, .inr ?_, .inr ?_, .inr ?_, .inr ?_, .inr ?_, .inr ?_, .inr ?_, .inr ?_, .inr ?_, .inr ?_, .inr ?_, .inr ?_, .inr ?_, .inr ?_, .inr ?_, .inr ?_, .inr ?_, .inr ?_, .inr ?_, .inr ?_, .inr ?_, trivial⟩
            · (with_reducible refine FixB.of ?_ ?_; rfl; intro w' hS; have s9 := HI.out.below hS (Nat.le_refl _); have s0 := s9.c0; have s1 := s9.l.five hi; have s2 := s9.l.five hk; clear s9 hS; unfold Oper.wp; go_simp; first | done | exact Below.refl _ _)
            · (with_reducible refine FixB.of ?_ ?_; rfl; intro w' hS; have s9 := HI.out.below hS (Nat.le_refl _); have s0 := s9.c0; have s1 := s9.l.five hi; have s2 := s9.l.five hk; clear s9 hS; unfold Oper.wp; go_simp; first | done | exact Below.refl _ _)
            · (with_reducible refine FixB.of ?_ ?_; rfl; intro w' hS; have s9 := HI.out.below hS (Nat.le_refl _); have s0 := s9.c0; have s1 := s9.l.five hi; have s2 := s9.l.five hk; clear s9 hS; unfold Oper.wp; go_simp; first | done | exact Below.refl _ _)
            · (with_reducible refine FixB.of ?_ ?_; rfl; intro w' hS; have s9 := HI.out.below hS (Nat.le_refl _); have s0 := s9.c0; have s1 := s9.l.five hi; have s2 := s9.l.five hk; clear s9 hS; unfold Oper.wp; go_simp; first | done | exact Below.refl _ _)
            · (with_reducible refine FixB.of ?_ ?_; rfl; intro w' hS; have s9 := HI.out.below hS (Nat.le_refl _); have s0 := s9.c0; have s1 := s9.l.five hi; have s2 := s9.l.five hk; clear s9 hS; unfold Oper.wp; go_simp; first | done | exact Below.refl _ _)
            · (with_reducible refine FixB.of ?_ ?_; rfl; intro w' hS; have s9 := HI.out.below hS (Nat.le_refl _); have s0 := s9.c0; have s1 := s9.l.five hi; have s2 := s9.l.five hk; clear s9 hS; unfold Oper.wp; go_simp; first | done | exact Below.refl _ _)
            · (with_reducible refine FixB.of ?_ ?_; rfl; intro w' hS; have s9 := HI.out.below hS (Nat.le_refl _); have s0 := s9.c0; have s1 := s9.l.five hi; have s2 := s9.l.five hk; clear s9 hS; unfold Oper.wp; go_simp; first | done | exact Below.refl _ _)
            · (with_reducible refine FixB.of ?_ ?_; rfl; intro w' hS; have s9 := HI.out.below hS (Nat.le_refl _); have s0 := s9.c0; have s1 := s9.l.five hi; have s2 := s9.l.five hk; clear s9 hS; unfold Oper.wp; go_simp; first | done | exact Below.refl _ _)
            · (with_reducible refine FixB.of ?_ ?_; rfl; intro w' hS; have s9 := HI.out.below hS (Nat.le_refl _); have s0 := s9.c0; have s1 := s9.l.five hi; have s2 := s9.l.five hk; clear s9 hS; unfold Oper.wp; go_simp; first | done | exact Below.refl _ _)
            · (with_reducible refine FixB.of ?_ ?_; rfl; intro w' hS; have s9 := HI.out.below hS (Nat.le_refl _); have s0 := s9.c0; have s1 := s9.l.five hi; have s2 := s9.l.five hk; clear s9 hS; unfold Oper.wp; go_simp; first | done | exact Below.refl _ _)
            · (with_reducible refine FixB.of ?_ ?_; rfl; intro w' hS; have s9 := HI.out.below hS (Nat.le_refl _); have s0 := s9.c0; have s1 := s9.l.five hi; have s2 := s9.l.five hk; clear s9 hS; unfold Oper.wp; go_simp; first | done | exact Below.refl _ _)
            · (with_reducible refine FixB.of ?_ ?_; rfl; intro w' hS; have s9 := HI.out.below hS (Nat.le_refl _); have s0 := s9.c0; have s1 := s9.l.five hi; have s2 := s9.l.five hk; clear s9 hS; unfold Oper.wp; go_simp; first | done | exact Below.refl _ _)
            · (with_reducible refine FixB.of ?_ ?_; rfl; intro w' hS; have s9 := HI.out.below hS (Nat.le_refl _); have s0 := s9.c0; have s1 := s9.l.five hi; have s2 := s9.l.five hk; clear s9 hS; unfold Oper.wp; go_simp; first | done | exact Below.refl _ _)
            · (with_reducible refine FixB.of ?_ ?_; rfl; intro w' hS; have s9 := HI.out.below hS (Nat.le_refl _); have s0 := s9.c0; have s1 := s9.l.five hi; have s2 := s9.l.five hk; clear s9 hS; unfold Oper.wp; go_simp; first | done | exact Below.refl _ _)
            · (with_reducible refine FixB.of ?_ ?_; rfl; intro w' hS; have s9 := HI.out.below hS (Nat.le_refl _); have s0 := s9.c0; have s1 := s9.l.five hi; have s2 := s9.l.five hk; clear s9 hS; unfold Oper.wp; go_simp; first | done | exact Below.refl _ _)
            · (with_reducible refine FixB.of ?_ ?_; rfl; intro w' hS; have s9 := HI.out.below hS (Nat.le_refl _); have s0 := s9.c0; have s1 := s9.l.five hi; have s2 := s9.l.five hk; clear s9 hS; unfold Oper.wp; go_simp; first | done | exact Below.refl _ _)
            · exact FixB.off (by first | rfl | kernel_rfl | (simp [Region.wanted, yielded]; done)) rfl
            · exact FixB.off (by first | rfl | kernel_rfl | (simp [Region.wanted, yielded]; done)) rfl
            · exact FixB.off (by first | rfl | kernel_rfl | (simp [Region.wanted, yielded]; done)) rfl
            · exact FixB.off (by first | rfl | kernel_rfl | (simp [Region.wanted, yielded]; done)) rfl
            · exact FixB.off (by first | rfl | kernel_rfl | (simp [Region.wanted, yielded]; done)) rfl
            · exact FixB.off (by first | rfl | kernel_rfl | (simp [Region.wanted, yielded]; done)) rfl
            · exact FixB.off (by first | rfl | kernel_rfl | (simp [Region.wanted, yielded]; done)) rfl
            · exact FixB.off (by first | rfl | kernel_rfl | (simp [Region.wanted, yielded]; done)) rfl
            · exact FixB.off (by first | rfl | kernel_rfl | (simp [Region.wanted, yielded]; done)) rfl
            · exact FixB.off (by first | rfl | kernel_rfl | (simp [Region.wanted, yielded]; done)) rfl
            · exact FixB.off (by first | rfl | kernel_rfl | (simp [Region.wanted, yielded]; done)) rfl
            · exact FixB.off (by first | rfl | kernel_rfl | (simp [Region.wanted, yielded]; done)) rfl
            · exact FixB.off (by first | rfl | kernel_rfl | (simp [Region.wanted, yielded]; done)) rfl
            · exact FixB.off (by first | rfl | kernel_rfl | (simp [Region.wanted, yielded]; done)) rfl
            · exact FixB.off (by first | rfl | kernel_rfl | (simp [Region.wanted, yielded]; done)) rfl
            · (with_reducible refine FixB.of ?_ ?_; rfl; intro w' hS; have s9 := HI.out.below hS (Nat.le_refl _); have s0 := s9.c0; have s1 := s9.l.five hi; have s2 := s9.l.five hk; clear s9 hS; unfold Oper.wp; go_simp; first | done | exact Below.refl _ _)
            · (with_reducible refine FixB.of ?_ ?_; rfl; intro w' hS; have s9 := HI.out.below hS (Nat.le_refl _); have s0 := s9.c0; have s1 := s9.l.five hi; have s2 := s9.l.five hk; clear s9 hS; unfold Oper.wp; go_simp; first | done | exact Below.refl _ _)
          case hQ =>
          intro wc hS _
          have HB2 := Lib.hid hS
          clear hS
          go_wp2
          go_ret
          exact ⟨by rw [same_full, ← Hs.out, ← Ht.out] <;> rfl, HB2.out⟩
        · go_enter Try.func51, Try.ntmps51
          go_wp2_with fail
          refine wp_region_same [] rfl (by kernel_rfl) (by kernel_rfl) (by kernel_rfl) (fun w' => Below w.heap.size w w') _
            [.pointer (some ⟨d, 0, none⟩), .pointer (some ⟨d, 0, none⟩), .pointer (some ⟨d, 0, none⟩), .slice (some ⟨gl, 0, none⟩) N N, I i, .pointer (some ⟨gl, i * 5, none⟩), .agg (sc (lSet E i)), .pointer (some ⟨d, 0, none⟩), .pointer (some ⟨d, 0, none⟩), .pointer (some ⟨d, 0, none⟩), .slice (some ⟨gl, 0, none⟩) N N, I k, .pointer (some ⟨gl, k * 5, none⟩), .agg (sc (lSet E k)), .bool true, .bool true, .pointer (some ⟨d, 0, none⟩), .pointer (some ⟨d, 0, none⟩), .pointer (some ⟨d, 1, none⟩), .slice (some ⟨gr, 0, none⟩) N N, I i, .pointer (some ⟨gr, i * 5, none⟩), .agg (sc (rSet E i)), .pointer (some ⟨d, 0, none⟩), .pointer (some ⟨d, 0, none⟩), .pointer (some ⟨d, 1, none⟩), .slice (some ⟨gr, 0, none⟩) N N, I k, .pointer (some ⟨gr, k * 5, none⟩), .agg (sc (rSet E k)), .bool u, .bool u, .bool u]
            (by simp only [putAll, List.setIfInBounds_toArray, List.set_cons_succ, List.set_cons_zero]; rfl) (Below.refl _ _).drew ?hop ?hQ
          case hop =>
            refine FixBL.toL (fun w' w'' hS hb => hS.trans (hb.mono hS.size)) _ _ ?_
            refine ⟨.inr ?_, .inr ?_, .inr ?_, .inr ?_, .inr ?_, .inr ?_, .inr ?_, .inr ?_, .inr ?_, .inr ?_, .inr ?_, .inr ?_, .inr ?_, .inr ?_, .inr ?_, .inr ?_, .inr ?_, .inr ?_, .inr ?_, .inr ?_, .inr ?_, .inr ?_, .inr ?_, .inr ?_, .inr ?_, .inr ?_, .inr ?_, .inr ?_, .inr ?_, .inr ?_, .inr ?_, .inr ?_, .inr ?_, trivial⟩
            · (with_reducible refine FixB.of ?_ ?_; rfl; intro w' hS; have s9 := HI.out.below hS (Nat.le_refl _); have s0 := s9.c0; have s10 := s9.c1; have s1 := s9.l.five hi; have s2 := s9.l.five hk; have s3 := s9.r.five hi; have s4 := s9.r.five hk; clear s9 hS; unfold Oper.wp; go_simp; first | done | exact Below.refl _ _)
            · (with_reducible refine FixB.of ?_ ?_; rfl; intro w' hS; have s9 := HI.out.below hS (Nat.le_refl _); have s0 := s9.c0; have s10 := s9.c1; have s1 := s9.l.five hi; have s2 := s9.l.five hk; have s3 := s9.r.five hi; have s4 := s9.r.five hk; clear s9 hS; unfold Oper.wp; go_simp; first | done | exact Below.refl _ _)
            · (with_reducible refine FixB.of ?_ ?_; rfl; intro w' hS; have s9 := HI.out.below hS (Nat.le_refl _); have s0 := s9.c0; have s10 := s9.c1; have s1 := s9.l.five hi; have s2 := s9.l.five hk; have s3 := s9.r.five hi; have s4 := s9.r.five hk; clear s9 hS; unfold Oper.wp; go_simp; first | done | exact Below.refl _ _)
            · (with_reducible refine FixB.of ?_ ?_; rfl; intro w' hS; have s9 := HI.out.below hS (Nat.le_refl _); have s0 := s9.c0; have s10 := s9.c1; have s1 := s9.l.five hi; have s2 := s9.l.five hk; have s3 := s9.r.five hi; have s4 := s9.r.five hk; clear s9 hS; unfold Oper.wp; go_simp; first | done | exact Below.refl _ _)
            · (with_reducible refine FixB.of ?_ ?_; rfl; intro w' hS; have s9 := HI.out.below hS (Nat.le_refl _); have s0 := s9.c0; have s10 := s9.c1; have s1 := s9.l.five hi; have s2 := s9.l.five hk; have s3 := s9.r.five hi; have s4 := s9.r.five hk; clear s9 hS; unfold Oper.wp; go_simp; first | done | exact Below.refl _ _)
            · (with_reducible refine FixB.of ?_ ?_; rfl; intro w' hS; have s9 := HI.out.below hS (Nat.le_refl _); have s0 := s9.c0; have s10 := s9.c1; have s1 := s9.l.five hi; have s2 := s9.l.five hk; have s3 := s9.r.five hi; have s4 := s9.r.five hk; clear s9 hS; unfold Oper.wp; go_simp; first | done | exact Below.refl _ _)
            · (with_reducible refine FixB.of ?_ ?_; rfl; intro w' hS; have s9 := HI.out.below hS (Nat.le_refl _); have s0 := s9.c0; have s10 := s9.c1; have s1 := s9.l.five hi; have s2 := s9.l.five hk; have s3 := s9.r.five hi; have s4 := s9.r.five hk; clear s9 hS; unfold Oper.wp; go_simp; first | done | exact Below.refl _ _)
            · (with_reducible refine FixB.of ?_ ?_; rfl; intro w' hS; have s9 := HI.out.below hS (Nat.le_refl _); have s0 := s9.c0; have s10 := s9.c1; have s1 := s9.l.five hi; have s2 := s9.l.five hk; have s3 := s9.r.five hi; have s4 := s9.r.five hk; clear s9 hS; unfold Oper.wp; go_simp; first | done | exact Below.refl _ _)
            · (with_reducible refine FixB.of ?_ ?_; rfl; intro w' hS; have s9 := HI.out.below hS (Nat.le_refl _); have s0 := s9.c0; have s10 := s9.c1; have s1 := s9.l.five hi; have s2 := s9.l.five hk; have s3 := s9.r.five hi; have s4 := s9.r.five hk; clear s9 hS; unfold Oper.wp; go_simp; first | done | exact Below.refl _ _)
            · (with_reducible refine FixB.of ?_ ?_; rfl; intro w' hS; have s9 := HI.out.below hS (Nat.le_refl _); have s0 := s9.c0; have s10 := s9.c1; have s1 := s9.l.five hi; have s2 := s9.l.five hk; have s3 := s9.r.five hi; have s4 := s9.r.five hk; clear s9 hS; unfold Oper.wp; go_simp; first | done | exact Below.refl _ _)
            · (with_reducible refine FixB.of ?_ ?_; rfl; intro w' hS; have s9 := HI.out.below hS (Nat.le_refl _); have s0 := s9.c0; have s10 := s9.c1; have s1 := s9.l.five hi; have s2 := s9.l.five hk; have s3 := s9.r.five hi; have s4 := s9.r.five hk; clear s9 hS; unfold Oper.wp; go_simp; first | done | exact Below.refl _ _)
            · (with_reducible refine FixB.of ?_ ?_; rfl; intro w' hS; have s9 := HI.out.below hS (Nat.le_refl _); have s0 := s9.c0; have s10 := s9.c1; have s1 := s9.l.five hi; have s2 := s9.l.five hk; have s3 := s9.r.five hi; have s4 := s9.r.five hk; clear s9 hS; unfold Oper.wp; go_simp; first | done | exact Below.refl _ _)
            · (with_reducible refine FixB.of ?_ ?_; rfl; intro w' hS; have s9 := HI.out.below hS (Nat.le_refl _); have s0 := s9.c0; have s10 := s9.c1; have s1 := s9.l.five hi; have s2 := s9.l.five hk; have s3 := s9.r.five hi; have s4 := s9.r.five hk; clear s9 hS; unfold Oper.wp; go_simp; first | done | exact Below.refl _ _)
            · (with_reducible refine FixB.of ?_ ?_; rfl; intro w' hS; have s9 := HI.out.below hS (Nat.le_refl _); have s0 := s9.c0; have s10 := s9.c1; have s1 := s9.l.five hi; have s2 := s9.l.five hk; have s3 := s9.r.five hi; have s4 := s9.r.five hk; clear s9 hS; unfold Oper.wp; go_simp; first | done | exact Below.refl _ _)
            · (with_reducible refine FixB.of ?_ ?_; rfl; intro w' hS; have s9 := HI.out.below hS (Nat.le_refl _); have s0 := s9.c0; have s10 := s9.c1; have s1 := s9.l.five hi; have s2 := s9.l.five hk; have s3 := s9.r.five hi; have s4 := s9.r.five hk; clear s9 hS; unfold Oper.wp; go_simp; first | done | exact Below.refl _ _)
            · (with_reducible refine FixB.of ?_ ?_; rfl; intro w' hS; have s9 := HI.out.below hS (Nat.le_refl _); have s0 := s9.c0; have s10 := s9.c1; have s1 := s9.l.five hi; have s2 := s9.l.five hk; have s3 := s9.r.five hi; have s4 := s9.r.five hk; clear s9 hS; unfold Oper.wp; go_simp; first | done | exact Below.refl _ _)
            · (refine FixB.on (by first | rfl | kernel_rfl | (simp [Region.wanted, yielded]; done)) ?_; intro w' hS; have s9 := HI.out.below hS (Nat.le_refl _); have s0 := s9.c0; have s10 := s9.c1; have s1 := s9.l.five hi; have s2 := s9.l.five hk; have s3 := s9.r.five hi; have s4 := s9.r.five hk; clear s9 hS; unfold Oper.wp; go_simp; first | done | exact Below.refl _ _)
            · (refine FixB.on (by first | rfl | kernel_rfl | (simp [Region.wanted, yielded]; done)) ?_; intro w' hS; have s9 := HI.out.below hS (Nat.le_refl _); have s0 := s9.c0; have s10 := s9.c1; have s1 := s9.l.five hi; have s2 := s9.l.five hk; have s3 := s9.r.five hi; have s4 := s9.r.five hk; clear s9 hS; unfold Oper.wp; go_simp; first | done | exact Below.refl _ _)
            · (refine FixB.on (by first | rfl | kernel_rfl | (simp [Region.wanted, yielded]; done)) ?_; intro w' hS; have s9 := HI.out.below hS (Nat.le_refl _); have s0 := s9.c0; have s10 := s9.c1; have s1 := s9.l.five hi; have s2 := s9.l.five hk; have s3 := s9.r.five hi; have s4 := s9.r.five hk; clear s9 hS; unfold Oper.wp; go_simp; first | done | exact Below.refl _ _)
            · (refine FixB.on (by first | rfl | kernel_rfl | (simp [Region.wanted, yielded]; done)) ?_; intro w' hS; have s9 := HI.out.below hS (Nat.le_refl _); have s0 := s9.c0; have s10 := s9.c1; have s1 := s9.l.five hi; have s2 := s9.l.five hk; have s3 := s9.r.five hi; have s4 := s9.r.five hk; clear s9 hS; unfold Oper.wp; go_simp; first | done | exact Below.refl _ _)
            · (refine FixB.on (by first | rfl | kernel_rfl | (simp [Region.wanted, yielded]; done)) ?_; intro w' hS; have s9 := HI.out.below hS (Nat.le_refl _); have s0 := s9.c0; have s10 := s9.c1; have s1 := s9.l.five hi; have s2 := s9.l.five hk; have s3 := s9.r.five hi; have s4 := s9.r.five hk; clear s9 hS; unfold Oper.wp; go_simp; first | done | exact Below.refl _ _)
            · (refine FixB.on (by first | rfl | kernel_rfl | (simp [Region.wanted, yielded]; done)) ?_; intro w' hS; have s9 := HI.out.below hS (Nat.le_refl _); have s0 := s9.c0; have s10 := s9.c1; have s1 := s9.l.five hi; have s2 := s9.l.five hk; have s3 := s9.r.five hi; have s4 := s9.r.five hk; clear s9 hS; unfold Oper.wp; go_simp; first | done | exact Below.refl _ _)
            · (refine FixB.on (by first | rfl | kernel_rfl | (simp [Region.wanted, yielded]; done)) ?_; intro w' hS; have s9 := HI.out.below hS (Nat.le_refl _); have s0 := s9.c0; have s10 := s9.c1; have s1 := s9.l.five hi; have s2 := s9.l.five hk; have s3 := s9.r.five hi; have s4 := s9.r.five hk; clear s9 hS; unfold Oper.wp; go_simp; first | done | exact Below.refl _ _)
            · (refine FixB.on (by first | rfl | kernel_rfl | (simp [Region.wanted, yielded]; done)) ?_; intro w' hS; have s9 := HI.out.below hS (Nat.le_refl _); have s0 := s9.c0; have s10 := s9.c1; have s1 := s9.l.five hi; have s2 := s9.l.five hk; have s3 := s9.r.five hi; have s4 := s9.r.five hk; clear s9 hS; unfold Oper.wp; go_simp; first | done | exact Below.refl _ _)
            · (refine FixB.on (by first | rfl | kernel_rfl | (simp [Region.wanted, yielded]; done)) ?_; intro w' hS; have s9 := HI.out.below hS (Nat.le_refl _); have s0 := s9.c0; have s10 := s9.c1; have s1 := s9.l.five hi; have s2 := s9.l.five hk; have s3 := s9.r.five hi; have s4 := s9.r.five hk; clear s9 hS; unfold Oper.wp; go_simp; first | done | exact Below.refl _ _)
            · (refine FixB.on (by first | rfl | kernel_rfl | (simp [Region.wanted, yielded]; done)) ?_; intro w' hS; have s9 := HI.out.below hS (Nat.le_refl _); have s0 := s9.c0; have s10 := s9.c1; have s1 := s9.l.five hi; have s2 := s9.l.five hk; have s3 := s9.r.five hi; have s4 := s9.r.five hk; clear s9 hS; unfold Oper.wp; go_simp; first | done | exact Below.refl _ _)
            · (refine FixB.on (by first | rfl | kernel_rfl | (simp [Region.wanted, yielded]; done)) ?_; intro w' hS; have s9 := HI.out.below hS (Nat.le_refl _); have s0 := s9.c0; have s10 := s9.c1; have s1 := s9.l.five hi; have s2 := s9.l.five hk; have s3 := s9.r.five hi; have s4 := s9.r.five hk; clear s9 hS; unfold Oper.wp; go_simp; first | done | exact Below.refl _ _)
            · (refine FixB.on (by first | rfl | kernel_rfl | (simp [Region.wanted, yielded]; done)) ?_; intro w' hS; have s9 := HI.out.below hS (Nat.le_refl _); have s0 := s9.c0; have s10 := s9.c1; have s1 := s9.l.five hi; have s2 := s9.l.five hk; have s3 := s9.r.five hi; have s4 := s9.r.five hk; clear s9 hS; unfold Oper.wp; go_simp; first | done | exact Below.refl _ _)
            · (refine FixB.on (by first | rfl | kernel_rfl | (simp [Region.wanted, yielded]; done)) ?_; intro w' hS; have s9 := HI.out.below hS (Nat.le_refl _); have s0 := s9.c0; have s10 := s9.c1; have s1 := s9.l.five hi; have s2 := s9.l.five hk; have s3 := s9.r.five hi; have s4 := s9.r.five hk; clear s9 hS; unfold Oper.wp; go_simp; first | done | exact Below.refl _ _)
            · (refine FixB.on (by first | rfl | kernel_rfl | (simp [Region.wanted, yielded]; done)) ?_; intro w' hS; have s9 := HI.out.below hS (Nat.le_refl _); have s0 := s9.c0; have s10 := s9.c1; have s1 := s9.l.five hi; have s2 := s9.l.five hk; have s3 := s9.r.five hi; have s4 := s9.r.five hk; clear s9 hS; unfold Oper.wp; go_simp; first | done | exact Below.refl _ _)
            · (refine FixB.on (by first | rfl | kernel_rfl | (simp [Region.wanted, yielded]; done)) ?_; intro w' hS; have s9 := HI.out.below hS (Nat.le_refl _); have s0 := s9.c0; have s10 := s9.c1; have s1 := s9.l.five hi; have s2 := s9.l.five hk; have s3 := s9.r.five hi; have s4 := s9.r.five hk; clear s9 hS; unfold Oper.wp; go_simp; first | done | exact Below.refl _ _)
            · (with_reducible refine FixB.of ?_ ?_; rfl; intro w' hS; have s9 := HI.out.below hS (Nat.le_refl _); have s0 := s9.c0; have s10 := s9.c1; have s1 := s9.l.five hi; have s2 := s9.l.five hk; have s3 := s9.r.five hi; have s4 := s9.r.five hk; clear s9 hS; unfold Oper.wp; go_simp; first | done | exact Below.refl _ _)
            · (with_reducible refine FixB.of ?_ ?_; rfl; intro w' hS; have s9 := HI.out.below hS (Nat.le_refl _); have s0 := s9.c0; have s10 := s9.c1; have s1 := s9.l.five hi; have s2 := s9.l.five hk; have s3 := s9.r.five hi; have s4 := s9.r.five hk; clear s9 hS; unfold Oper.wp; go_simp; first | done | exact Below.refl _ _)
          case hQ =>
          intro wc hS _
          have HB2 := Lib.hid hS
          clear hS
          go_wp2
          go_ret
          exact ⟨by rw [same_full, ← Hs.out, ← Ht.out, ← Hs2.out, ← Hu.out] <;> rfl, HB2.out⟩
      · have hb2 : (kind == 2) = false := by simpa using h2
        have Hk := Lib.hid (same_else (E := E) (i := i) (k := k) h0 h1 h2)
        have Hs := Lib.hid (jSet_eq Hm.out HE.out hiE hkE)
        have heq := eqSet_run (jSet E i) (jSet E k)
        obtain ⟨t, ht⟩ : ∃ t, t = setEq (jSet E i) (jSet E k) := ⟨_, rfl⟩
        rw [← ht] at heq
        have Ht := Lib.hid ht
        clear ht h0 h1 h2
        go_enter Try.func51, Try.ntmps51
        go_wp2_with fail
        refine wp_region_same [] rfl (by kernel_rfl) (by kernel_rfl) (by kernel_rfl) (fun w' => Below w.heap.size w w') _
          [.pointer (some ⟨d, 0, none⟩), .pointer (some ⟨d, 0, none⟩), .pointer (some ⟨d, 2, none⟩), .slice (some ⟨gb, 0, none⟩) N N, I i, .pointer (some ⟨gb, i * 5, none⟩), .agg (sc (jSet E i)), .pointer (some ⟨d, 0, none⟩), .pointer (some ⟨d, 0, none⟩), .pointer (some ⟨d, 2, none⟩), .slice (some ⟨gb, 0, none⟩) N N, I k, .pointer (some ⟨gb, k * 5, none⟩), .agg (sc (jSet E k)), .bool t, .bool t]
          (by simp only [putAll, List.setIfInBounds_toArray, List.set_cons_succ, List.set_cons_zero]; rfl) (Below.refl _ _).drew ?hop ?hQ
        case hop =>
          refine FixBL.toL (fun w' w'' hS hb => hS.trans (hb.mono hS.size)) _ _ ?_
          refine ⟨.inr ?_, .inr ?_, .inr ?_, .inr ?_, .inr ?_, .inr ?_, .inr ?_, .inr ?_, .inr ?_, .inr ?_, .inr ?_, .inr ?_, .inr ?_, .inr ?_, .inr ?_, .inr ?_, trivial⟩
          · (with_reducible refine FixB.of ?_ ?_; rfl; intro w' hS; have s9 := HI.out.below hS (Nat.le_refl _); have s0 := s9.c2; have s1 := s9.b.five hi; have s2 := s9.b.five hk; clear s9 hS; unfold Oper.wp; go_simp; first | done | exact Below.refl _ _)
          · (with_reducible refine FixB.of ?_ ?_; rfl; intro w' hS; have s9 := HI.out.below hS (Nat.le_refl _); have s0 := s9.c2; have s1 := s9.b.five hi; have s2 := s9.b.five hk; clear s9 hS; unfold Oper.wp; go_simp; first | done | exact Below.refl _ _)
          · (with_reducible refine FixB.of ?_ ?_; rfl; intro w' hS; have s9 := HI.out.below hS (Nat.le_refl _); have s0 := s9.c2; have s1 := s9.b.five hi; have s2 := s9.b.five hk; clear s9 hS; unfold Oper.wp; go_simp; first | done | exact Below.refl _ _)
          · (with_reducible refine FixB.of ?_ ?_; rfl; intro w' hS; have s9 := HI.out.below hS (Nat.le_refl _); have s0 := s9.c2; have s1 := s9.b.five hi; have s2 := s9.b.five hk; clear s9 hS; unfold Oper.wp; go_simp; first | done | exact Below.refl _ _)
          · (with_reducible refine FixB.of ?_ ?_; rfl; intro w' hS; have s9 := HI.out.below hS (Nat.le_refl _); have s0 := s9.c2; have s1 := s9.b.five hi; have s2 := s9.b.five hk; clear s9 hS; unfold Oper.wp; go_simp; first | done | exact Below.refl _ _)
          · (with_reducible refine FixB.of ?_ ?_; rfl; intro w' hS; have s9 := HI.out.below hS (Nat.le_refl _); have s0 := s9.c2; have s1 := s9.b.five hi; have s2 := s9.b.five hk; clear s9 hS; unfold Oper.wp; go_simp; first | done | exact Below.refl _ _)
          · (with_reducible refine FixB.of ?_ ?_; rfl; intro w' hS; have s9 := HI.out.below hS (Nat.le_refl _); have s0 := s9.c2; have s1 := s9.b.five hi; have s2 := s9.b.five hk; clear s9 hS; unfold Oper.wp; go_simp; first | done | exact Below.refl _ _)
          · (with_reducible refine FixB.of ?_ ?_; rfl; intro w' hS; have s9 := HI.out.below hS (Nat.le_refl _); have s0 := s9.c2; have s1 := s9.b.five hi; have s2 := s9.b.five hk; clear s9 hS; unfold Oper.wp; go_simp; first | done | exact Below.refl _ _)
          · (with_reducible refine FixB.of ?_ ?_; rfl; intro w' hS; have s9 := HI.out.below hS (Nat.le_refl _); have s0 := s9.c2; have s1 := s9.b.five hi; have s2 := s9.b.five hk; clear s9 hS; unfold Oper.wp; go_simp; first | done | exact Below.refl _ _)
          · (with_reducible refine FixB.of ?_ ?_; rfl; intro w' hS; have s9 := HI.out.below hS (Nat.le_refl _); have s0 := s9.c2; have s1 := s9.b.five hi; have s2 := s9.b.five hk; clear s9 hS; unfold Oper.wp; go_simp; first | done | exact Below.refl _ _)
          · (with_reducible refine FixB.of ?_ ?_; rfl; intro w' hS; have s9 := HI.out.below hS (Nat.le_refl _); have s0 := s9.c2; have s1 := s9.b.five hi; have s2 := s9.b.five hk; clear s9 hS; unfold Oper.wp; go_simp; first | done | exact Below.refl _ _)
          · (with_reducible refine FixB.of ?_ ?_; rfl; intro w' hS; have s9 := HI.out.below hS (Nat.le_refl _); have s0 := s9.c2; have s1 := s9.b.five hi; have s2 := s9.b.five hk; clear s9 hS; unfold Oper.wp; go_simp; first | done | exact Below.refl _ _)
          · (with_reducible refine FixB.of ?_ ?_; rfl; intro w' hS; have s9 := HI.out.below hS (Nat.le_refl _); have s0 := s9.c2; have s1 := s9.b.five hi; have s2 := s9.b.five hk; clear s9 hS; unfold Oper.wp; go_simp; first | done | exact Below.refl _ _)
          · (with_reducible refine FixB.of ?_ ?_; rfl; intro w' hS; have s9 := HI.out.below hS (Nat.le_refl _); have s0 := s9.c2; have s1 := s9.b.five hi; have s2 := s9.b.five hk; clear s9 hS; unfold Oper.wp; go_simp; first | done | exact Below.refl _ _)
          · (with_reducible refine FixB.of ?_ ?_; rfl; intro w' hS; have s9 := HI.out.below hS (Nat.le_refl _); have s0 := s9.c2; have s1 := s9.b.five hi; have s2 := s9.b.five hk; clear s9 hS; unfold Oper.wp; go_simp; first | done | exact Below.refl _ _)
          · (with_reducible refine FixB.of ?_ ?_; rfl; intro w' hS; have s9 := HI.out.below hS (Nat.le_refl _); have s0 := s9.c2; have s1 := s9.b.five hi; have s2 := s9.b.five hk; clear s9 hS; unfold Oper.wp; go_simp; first | done | exact Below.refl _ _)
        case hQ =>
        intro wc hS _
        have HB2 := Lib.hid hS
        clear hS
        go_wp2
        go_ret
        exact ⟨by rw [Hk.out, ← Hs.out, ← Ht.out] <;> rfl, HB2.out⟩
end Go.Proofs.Ytneonacdjmfaoaa
