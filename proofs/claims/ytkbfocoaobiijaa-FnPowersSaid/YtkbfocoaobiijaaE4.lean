/- Contracts of ranks, inverses and renumbered maps, with their codes; no conditions beyond those that each theorem states. -/
import Derived.Test.YtkbfocoaobiijaaD9
import Derived.Test.YtkbfocoaobiijaaC5
namespace Go.Proofs.Ytkbfocoaobiijaa
open Go.RowKit
set_option maxRecDepth 100000

def rkR (f : M) : Int := if isMap f then (rk f : Int) else 0
theorem rkR_bad {f : M} (h : isMap f = false) : rkR f = 0 := by simp [rkR, h]
theorem rkR_good {f : M} (h : isMap f = true) : rkR f = rk f := by simp [rkR, h]
def ren (f p : M) : M := mul (mul (inv p) f) p
def isP (p : M) : Bool := decide ((rk p : Int) = p.p)
theorem isP_ne (p : M) : ((rk p : Int) != p.p) = !isP p := by unfold isP; rw [Bool.eq_iff_iff]; simp
def ivR (f : M) : M := if isMap f && isP f then inv f else M0
def ivC (f : M) : Int := if isMap f then (if isP f then 0 else 5) else 1
theorem iv_bad {f : M} (h : isMap f = false) : ivR f = M0 ∧ ivC f = 1 := by simp [ivR, ivC, h]
theorem iv_no {f : M} (h : isMap f = true) (h2 : isP f = false) : ivR f = M0 ∧ ivC f = 5 := by simp [ivR, ivC, h, h2]
theorem iv_yes {f : M} (h : isMap f = true) (h2 : isP f = true) : ivR f = inv f ∧ ivC f = 0 := by simp [ivR, ivC, h, h2]
def rnR (f p : M) : M := if codeLike f p = 0 then (if isP p then ren f p else M0) else M0
def rnC (f p : M) : Int := if codeLike f p = 0 then (if isP p then 0 else 5) else codeLike f p
theorem rn_bad {f p : M} (h : codeLike f p ≠ 0) : rnR f p = M0 ∧ rnC f p = codeLike f p := by simp [rnR, rnC, h]
theorem rn_no {f p : M} (h : codeLike f p = 0) (h2 : isP p = false) : rnR f p = M0 ∧ rnC f p = 5 := by simp [rnR, rnC, h, h2]
theorem rn_yes {f p : M} (h : codeLike f p = 0) (h2 : isP p = true) : rnR f p = ren f p ∧ rnC f p = 0 := by simp [rnR, rnC, h, h2]
theorem like_ok {f p : M} (h : codeLike f p = 0) : Valid f ∧ Valid p ∧ f.p = p.p := like_iff.1 ((codeLike_like f p).2 h)
theorem isPerm_p (f : M) (w : World) (hv : Valid f) :
    Calls Try.prog 58 #[.agg (mc f)] w fun e w' => e = .returned (.bool (isP f)) ∧ Below w.heap.size w w' := isPerm_any f w hv
theorem inverse_p (f : M) (w : World) (hv : Valid f) (h : isP f = true) :
    Calls Try.prog 59 #[.agg (mc f)] w fun e w' => e = .returned (.agg (mc (inv f))) ∧ Below w.heap.size w w' := by
  have e : ivM f f.at f.p.toNat = inv f := inv_eq hv (of_decide_eq_true h)
  rw [← e]
  exact inverse_any f w hv
theorem l01Inverse_p (f : M) (w : World) (hv : Valid f) (_ : isP f = true) :
    Calls Try.prog 61 #[.agg (mc f)] w fun e w' => e = .returned (.agg (mc (inv f))) ∧ Below w.heap.size w w' := l01Inverse_any f w hv

theorem SpecRank_any (f : M) (w : World) :
    Calls Try.prog 29 #[.agg (mc f)] w fun e w' => e = .returned (.tuple #[I (rkR f), I (cInv (isMap f))]) ∧ Below w.heap.size w w' := by
  cases h : isMap f
  · have Hr := Lib.hid (rkR_bad h)
    go_enter Try.func29, Try.ntmps29
    go_wp2_with fail
    refine (l01Is_any _ _).mono ?_
    rintro e w1 ⟨rfl, hb⟩
    rw [h]
    have hbel : Below w.heap.size w w1 := Below.trans (by (repeat (first | with_reducible assumption | with_reducible exact Below.refl _ _ | with_reducible refine Below.setCell ?_ (by first | omega | (simp <;> omega)) _ | with_reducible refine Below.alloc ?_ (by first | omega | (simp <;> omega)) _ | with_reducible refine Below.drew ?_ | with_reducible refine Below.drewN ?_ _))) (hb.mono (by simp <;> omega))
    clear hb
    go_wp2
    go_ret2
    exact ⟨by rw [Hr.out] <;> rfl, hbel⟩
  · have Hr := Lib.hid (rkR_good h)
    have hv := (isMap_iff f).1 h
    go_enter Try.func29, Try.ntmps29
    go_wp2_with fail
    refine (l01Is_any _ _).mono ?_
    rintro e w1 ⟨rfl, hb⟩
    rw [h]
    have hs : Six w1 w.heap.size f := Six.below (Blk.six (Blk.new w _ _)) hb (by simp)
    have hbel : Below w.heap.size w w1 := Below.trans (by (repeat (first | with_reducible assumption | with_reducible exact Below.refl _ _ | with_reducible refine Below.setCell ?_ (by first | omega | (simp <;> omega)) _ | with_reducible refine Below.alloc ?_ (by first | omega | (simp <;> omega)) _ | with_reducible refine Below.drew ?_ | with_reducible refine Below.drewN ?_ _))) (hb.mono (by simp <;> omega))
    clear hb
    go_wp2_with fail
    refine (l01Rank_any f _ hv).mono ?_
    rintro e w2 ⟨rfl, hb⟩
    replace hbel := hbel.trans (hb.mono hbel.size)
    clear hb
    go_wp2
    go_ret2
    exact ⟨by rw [Hr.out] <;> rfl, hbel⟩

theorem ImplRank_any (f : M) (w : World) :
    Calls Try.prog 18 #[.agg (mc f)] w fun e w' => e = .returned (.tuple #[I (rkR f), I (cInv (isMap f))]) ∧ Below w.heap.size w w' := by
  cases h : isMap f
  · have Hr := Lib.hid (rkR_bad h)
    go_enter Try.func18, Try.ntmps18
    go_wp2_with fail
    refine (isMap_any _ _).mono ?_
    rintro e w1 ⟨rfl, hb⟩
    rw [h]
    have hbel : Below w.heap.size w w1 := Below.trans (by (repeat (first | with_reducible assumption | with_reducible exact Below.refl _ _ | with_reducible refine Below.setCell ?_ (by first | omega | (simp <;> omega)) _ | with_reducible refine Below.alloc ?_ (by first | omega | (simp <;> omega)) _ | with_reducible refine Below.drew ?_ | with_reducible refine Below.drewN ?_ _))) (hb.mono (by simp <;> omega))
    clear hb
    go_wp2
    go_ret2
    exact ⟨by rw [Hr.out] <;> rfl, hbel⟩
  · have Hr := Lib.hid (rkR_good h)
    have hv := (isMap_iff f).1 h
    go_enter Try.func18, Try.ntmps18
    go_wp2_with fail
    refine (isMap_any _ _).mono ?_
    rintro e w1 ⟨rfl, hb⟩
    rw [h]
    have hs : Six w1 w.heap.size f := Six.below (Blk.six (Blk.new w _ _)) hb (by simp)
    have hbel : Below w.heap.size w w1 := Below.trans (by (repeat (first | with_reducible assumption | with_reducible exact Below.refl _ _ | with_reducible refine Below.setCell ?_ (by first | omega | (simp <;> omega)) _ | with_reducible refine Below.alloc ?_ (by first | omega | (simp <;> omega)) _ | with_reducible refine Below.drew ?_ | with_reducible refine Below.drewN ?_ _))) (hb.mono (by simp <;> omega))
    clear hb
    go_wp2_with fail
    refine (rank_any f _ hv).mono ?_
    rintro e w2 ⟨rfl, hb⟩
    replace hbel := hbel.trans (hb.mono hbel.size)
    clear hb
    go_wp2
    go_ret2
    exact ⟨by rw [Hr.out] <;> rfl, hbel⟩

theorem SpecInverse_any (f : M) (w : World) :
    Calls Try.prog 21 #[.agg (mc f)] w fun e w' => e = .returned (.tuple #[.agg (mc (ivR f)), I (ivC f)]) ∧ Below w.heap.size w w' := by
  cases h : isMap f
  · have Hr := Lib.hid (iv_bad h)
    go_enter Try.func21, Try.ntmps21
    go_wp2_with fail
    refine (l01Is_any _ _).mono ?_
    rintro e w1 ⟨rfl, hb⟩
    rw [h]
    have hs : Six w1 w.heap.size f := Six.below (Blk.six ((Blk.new w _ _).alloc _)) hb (by simp <;> omega)
    have hB : Blk w1 (w.heap.size + 1) 26 (mc M0) := Blk.below (Blk.new' _ _ _ (by simp)) hb (by simp <;> omega)
    have hbel : Below w.heap.size w w1 := Below.trans (by (repeat (first | with_reducible assumption | with_reducible exact Below.refl _ _ | with_reducible refine Below.setCell ?_ (by first | omega | (simp <;> omega)) _ | with_reducible refine Below.alloc ?_ (by first | omega | (simp <;> omega)) _ | with_reducible refine Below.drew ?_ | with_reducible refine Below.drewN ?_ _))) (hb.mono (by simp <;> omega))
    clear hb
    obtain ⟨e0, e1, e2, e3, e4, e5⟩ := hB.six
    obtain ⟨z0, z1, z2, z3, z4, z5⟩ := hB.fr6
    go_wp2
    refine bodyPost_ret (v := .tuple #[.agg (mc M0), I 1]) ?_ rfl ⟨by rw [Hr.out.1, Hr.out.2], by (repeat (first | with_reducible assumption | with_reducible exact Below.refl _ _ | with_reducible refine Below.setCell ?_ (by first | omega | (simp <;> omega)) _ | with_reducible refine Below.alloc ?_ (by first | omega | (simp <;> omega)) _ | with_reducible refine Below.drew ?_ | with_reducible refine Below.drewN ?_ _))⟩
    simp [results, Try.results21, go_sem, *]
    try exact ⟨rfl, rfl, rfl, rfl, rfl, rfl⟩
  · have hv := (isMap_iff f).1 h
    cases hp : isP f
    · have Hr := Lib.hid (iv_no h hp)
      have Hp := Lib.hid hp
      have hpn := isP_ne f
      rw [hp] at hpn
      clear hp
      go_enter Try.func21, Try.ntmps21
      go_wp2_with fail
      refine (l01Is_any _ _).mono ?_
      rintro e w1 ⟨rfl, hb⟩
      rw [h]
      have hs : Six w1 w.heap.size f := Six.below (Blk.six ((Blk.new w _ _).alloc _)) hb (by simp <;> omega)
      have hB : Blk w1 (w.heap.size + 1) 26 (mc M0) := Blk.below (Blk.new' _ _ _ (by simp)) hb (by simp <;> omega)
      have hbel : Below w.heap.size w w1 := Below.trans (by (repeat (first | with_reducible assumption | with_reducible exact Below.refl _ _ | with_reducible refine Below.setCell ?_ (by first | omega | (simp <;> omega)) _ | with_reducible refine Below.alloc ?_ (by first | omega | (simp <;> omega)) _ | with_reducible refine Below.drew ?_ | with_reducible refine Below.drewN ?_ _))) (hb.mono (by simp <;> omega))
      clear hb
      have HS : Hid (Six w1.drew w.heap.size f ∧ Blk w1.drew (w.heap.size + 1) 26 (mc M0) ∧ Below w.heap.size w w1.drew) := ⟨hs, hB, hbel.drew⟩
      clear hs hB hbel
      go_wp2_with fail
      refine wp_region_same [] rfl (by kernel_rfl) (by kernel_rfl) (by kernel_rfl) (fun w' => Six w' w.heap.size f ∧ Blk w' (w.heap.size + 1) 26 (mc M0) ∧ Below w.heap.size w w') _
        [.agg (mc f), I (rk f), .pointer (some ⟨w.heap.size, 0, none⟩), I f.p, .bool true, .bool true]
        (by simp only [putAll, List.setIfInBounds_toArray, List.set_cons_succ, List.set_cons_zero]; rfl) HS.out ?hop ?hQ
      case hop =>
        refine FixBL.toL (fun w' w'' hS hb => ⟨hS.1.below hb hS.1.lt, hS.2.1.below hb hS.2.1.lt, hS.2.2.trans (hb.mono hS.2.2.size)⟩) _ _ ?_
        refine ⟨.inr ?_, .inr ?_, .inr ?_, .inr ?_, .inr ?_, .inr ?_, trivial⟩
        · (with_reducible refine FixB.of ?_ ?_; rfl; intro w' hS; have s0 := hS.1; clear hS; unfold Oper.wp; go_simp; first | done | exact Below.refl _ _)
        · (with_reducible refine FixB.of ?_ ?_; rfl; intro w' hS; have s3 := Lib.hid hS; unfold Oper.wp; clear hS; go_simp; refine (l01Rank_any f _ hv).mono ?_; rintro e w1 ⟨rfl, hb⟩; exact ⟨rfl, hb⟩)
        · (with_reducible refine FixB.of ?_ ?_; rfl; intro w' hS; have s0 := hS.1; clear hS; unfold Oper.wp; go_simp; first | done | exact Below.refl _ _)
        · (with_reducible refine FixB.of ?_ ?_; rfl; intro w' hS; have s0 := hS.1; clear hS; unfold Oper.wp; go_simp; first | done | exact Below.refl _ _)
        · (with_reducible refine FixB.of ?_ ?_; rfl; intro w' hS; have s0 := hS.1; clear hS; unfold Oper.wp; go_simp; first | done | exact Below.refl _ _)
        · (with_reducible refine FixB.of ?_ ?_; rfl; intro w' hS; have s0 := hS.1; clear hS; unfold Oper.wp; go_simp; first | done | exact Below.refl _ _)
      case hQ =>
       intro w2 hS _
       obtain ⟨hs, hB, hbel⟩ := hS
       clear HS
       obtain ⟨e0, e1, e2, e3, e4, e5⟩ := hB.six
       obtain ⟨z0, z1, z2, z3, z4, z5⟩ := hB.fr6
       go_wp2
       refine bodyPost_ret (v := .tuple #[.agg (mc M0), I 5]) ?_ rfl ⟨by rw [Hr.out.1, Hr.out.2], by (repeat (first | with_reducible assumption | with_reducible exact Below.refl _ _ | with_reducible refine Below.setCell ?_ (by first | omega | (simp <;> omega)) _ | with_reducible refine Below.alloc ?_ (by first | omega | (simp <;> omega)) _ | with_reducible refine Below.drew ?_ | with_reducible refine Below.drewN ?_ _))⟩
       simp [results, Try.results21, go_sem, *]
       try exact ⟨rfl, rfl, rfl, rfl, rfl, rfl⟩
    · have Hr := Lib.hid (iv_yes h hp)
      have Hp := Lib.hid hp
      have hpn := isP_ne f
      rw [hp] at hpn
      clear hp
      go_enter Try.func21, Try.ntmps21
      go_wp2_with fail
      refine (l01Is_any _ _).mono ?_
      rintro e w1 ⟨rfl, hb⟩
      rw [h]
      have hs : Six w1 w.heap.size f := Six.below (Blk.six ((Blk.new w _ _).alloc _)) hb (by simp <;> omega)
      have hB : Blk w1 (w.heap.size + 1) 26 (mc M0) := Blk.below (Blk.new' _ _ _ (by simp)) hb (by simp <;> omega)
      have hbel : Below w.heap.size w w1 := Below.trans (by (repeat (first | with_reducible assumption | with_reducible exact Below.refl _ _ | with_reducible refine Below.setCell ?_ (by first | omega | (simp <;> omega)) _ | with_reducible refine Below.alloc ?_ (by first | omega | (simp <;> omega)) _ | with_reducible refine Below.drew ?_ | with_reducible refine Below.drewN ?_ _))) (hb.mono (by simp <;> omega))
      clear hb
      have HS : Hid (Six w1.drew w.heap.size f ∧ Blk w1.drew (w.heap.size + 1) 26 (mc M0) ∧ Below w.heap.size w w1.drew) := ⟨hs, hB, hbel.drew⟩
      clear hs hB hbel
      go_wp2_with fail
      refine wp_region_same [] rfl (by kernel_rfl) (by kernel_rfl) (by kernel_rfl) (fun w' => Six w' w.heap.size f ∧ Blk w' (w.heap.size + 1) 26 (mc M0) ∧ Below w.heap.size w w') _
        [.agg (mc f), I (rk f), .pointer (some ⟨w.heap.size, 0, none⟩), I f.p, .bool false, .bool false]
        (by simp only [putAll, List.setIfInBounds_toArray, List.set_cons_succ, List.set_cons_zero]; rfl) HS.out ?hop ?hQ
      case hop =>
        refine FixBL.toL (fun w' w'' hS hb => ⟨hS.1.below hb hS.1.lt, hS.2.1.below hb hS.2.1.lt, hS.2.2.trans (hb.mono hS.2.2.size)⟩) _ _ ?_
        refine ⟨.inr ?_, .inr ?_, .inr ?_, .inr ?_, .inr ?_, .inr ?_, trivial⟩
        · (with_reducible refine FixB.of ?_ ?_; rfl; intro w' hS; have s0 := hS.1; clear hS; unfold Oper.wp; go_simp; first | done | exact Below.refl _ _)
        · (with_reducible refine FixB.of ?_ ?_; rfl; intro w' hS; have s3 := Lib.hid hS; unfold Oper.wp; clear hS; go_simp; refine (l01Rank_any f _ hv).mono ?_; rintro e w1 ⟨rfl, hb⟩; exact ⟨rfl, hb⟩)
        · (with_reducible refine FixB.of ?_ ?_; rfl; intro w' hS; have s0 := hS.1; clear hS; unfold Oper.wp; go_simp; first | done | exact Below.refl _ _)
        · (with_reducible refine FixB.of ?_ ?_; rfl; intro w' hS; have s0 := hS.1; clear hS; unfold Oper.wp; go_simp; first | done | exact Below.refl _ _)
        · (with_reducible refine FixB.of ?_ ?_; rfl; intro w' hS; have s0 := hS.1; clear hS; unfold Oper.wp; go_simp; first | done | exact Below.refl _ _)
        · (with_reducible refine FixB.of ?_ ?_; rfl; intro w' hS; have s0 := hS.1; clear hS; unfold Oper.wp; go_simp; first | done | exact Below.refl _ _)
      case hQ =>
       intro w2 hS _
       obtain ⟨hs, hB, hbel⟩ := hS
       clear HS
       go_wp2_with fail
       refine (l01Inverse_p f _ hv Hp.out).mono ?_
       rintro e w3 ⟨rfl, hb⟩
       replace hB := hB.below hb hB.lt
       replace hbel := hbel.trans (hb.mono hbel.size)
       clear hb
       obtain ⟨e0, e1, e2, e3, e4, e5⟩ := hB.six
       obtain ⟨z0, z1, z2, z3, z4, z5⟩ := hB.fr6
       go_wp2
       refine bodyPost_ret (v := .tuple #[.agg (mc (inv f)), I 0]) ?_ rfl ⟨by rw [Hr.out.1, Hr.out.2], by (repeat (first | with_reducible assumption | with_reducible exact Below.refl _ _ | with_reducible refine Below.setCell ?_ (by first | omega | (simp <;> omega)) _ | with_reducible refine Below.alloc ?_ (by first | omega | (simp <;> omega)) _ | with_reducible refine Below.drew ?_ | with_reducible refine Below.drewN ?_ _))⟩
       simp [results, Try.results21, go_sem, *]
       try exact ⟨rfl, rfl, rfl, rfl, rfl, rfl⟩

theorem ImplInverse_any (f : M) (w : World) :
    Calls Try.prog 20 #[.agg (mc f)] w fun e w' => e = .returned (.tuple #[.agg (mc (ivR f)), I (ivC f)]) ∧ Below w.heap.size w w' := by
  cases h : isMap f
  · have Hr := Lib.hid (iv_bad h)
    go_enter Try.func20, Try.ntmps20
    go_wp2_with fail
    refine (isMap_any _ _).mono ?_
    rintro e w1 ⟨rfl, hb⟩
    rw [h]
    have hs : Six w1 w.heap.size f := Six.below (Blk.six ((Blk.new w _ _).alloc _)) hb (by simp <;> omega)
    have hB : Blk w1 (w.heap.size + 1) 26 (mc M0) := Blk.below (Blk.new' _ _ _ (by simp)) hb (by simp <;> omega)
    have hbel : Below w.heap.size w w1 := Below.trans (by (repeat (first | with_reducible assumption | with_reducible exact Below.refl _ _ | with_reducible refine Below.setCell ?_ (by first | omega | (simp <;> omega)) _ | with_reducible refine Below.alloc ?_ (by first | omega | (simp <;> omega)) _ | with_reducible refine Below.drew ?_ | with_reducible refine Below.drewN ?_ _))) (hb.mono (by simp <;> omega))
    clear hb
    obtain ⟨e0, e1, e2, e3, e4, e5⟩ := hB.six
    obtain ⟨z0, z1, z2, z3, z4, z5⟩ := hB.fr6
    go_wp2
    refine bodyPost_ret (v := .tuple #[.agg (mc M0), I 1]) ?_ rfl ⟨by rw [Hr.out.1, Hr.out.2], by (repeat (first | with_reducible assumption | with_reducible exact Below.refl _ _ | with_reducible refine Below.setCell ?_ (by first | omega | (simp <;> omega)) _ | with_reducible refine Below.alloc ?_ (by first | omega | (simp <;> omega)) _ | with_reducible refine Below.drew ?_ | with_reducible refine Below.drewN ?_ _))⟩
    simp [results, Try.results20, go_sem, *]
    try exact ⟨rfl, rfl, rfl, rfl, rfl, rfl⟩
  · have hv := (isMap_iff f).1 h
    cases hp : isP f
    · have Hr := Lib.hid (iv_no h hp)
      have Hp := Lib.hid hp
      have hpn := isP_ne f
      rw [hp] at hpn
      clear hp
      go_enter Try.func20, Try.ntmps20
      go_wp2_with fail
      refine (isMap_any _ _).mono ?_
      rintro e w1 ⟨rfl, hb⟩
      rw [h]
      have hs : Six w1 w.heap.size f := Six.below (Blk.six ((Blk.new w _ _).alloc _)) hb (by simp <;> omega)
      have hB : Blk w1 (w.heap.size + 1) 26 (mc M0) := Blk.below (Blk.new' _ _ _ (by simp)) hb (by simp <;> omega)
      have hbel : Below w.heap.size w w1 := Below.trans (by (repeat (first | with_reducible assumption | with_reducible exact Below.refl _ _ | with_reducible refine Below.setCell ?_ (by first | omega | (simp <;> omega)) _ | with_reducible refine Below.alloc ?_ (by first | omega | (simp <;> omega)) _ | with_reducible refine Below.drew ?_ | with_reducible refine Below.drewN ?_ _))) (hb.mono (by simp <;> omega))
      clear hb
      go_wp2_with fail
      refine (isPerm_p f _ hv).mono ?_
      rintro e w2 ⟨rfl, hb⟩
      rw [Hp.out]
      replace hs := hs.below hb hs.lt
      replace hB := hB.below hb hB.lt
      replace hbel := hbel.trans (hb.mono hbel.size)
      clear hb
      obtain ⟨e0, e1, e2, e3, e4, e5⟩ := hB.six
      obtain ⟨z0, z1, z2, z3, z4, z5⟩ := hB.fr6
      go_wp2
      refine bodyPost_ret (v := .tuple #[.agg (mc M0), I 5]) ?_ rfl ⟨by rw [Hr.out.1, Hr.out.2], by (repeat (first | with_reducible assumption | with_reducible exact Below.refl _ _ | with_reducible refine Below.setCell ?_ (by first | omega | (simp <;> omega)) _ | with_reducible refine Below.alloc ?_ (by first | omega | (simp <;> omega)) _ | with_reducible refine Below.drew ?_ | with_reducible refine Below.drewN ?_ _))⟩
      simp [results, Try.results20, go_sem, *]
      try exact ⟨rfl, rfl, rfl, rfl, rfl, rfl⟩
    · have Hr := Lib.hid (iv_yes h hp)
      have Hp := Lib.hid hp
      have hpn := isP_ne f
      rw [hp] at hpn
      clear hp
      go_enter Try.func20, Try.ntmps20
      go_wp2_with fail
      refine (isMap_any _ _).mono ?_
      rintro e w1 ⟨rfl, hb⟩
      rw [h]
      have hs : Six w1 w.heap.size f := Six.below (Blk.six ((Blk.new w _ _).alloc _)) hb (by simp <;> omega)
      have hB : Blk w1 (w.heap.size + 1) 26 (mc M0) := Blk.below (Blk.new' _ _ _ (by simp)) hb (by simp <;> omega)
      have hbel : Below w.heap.size w w1 := Below.trans (by (repeat (first | with_reducible assumption | with_reducible exact Below.refl _ _ | with_reducible refine Below.setCell ?_ (by first | omega | (simp <;> omega)) _ | with_reducible refine Below.alloc ?_ (by first | omega | (simp <;> omega)) _ | with_reducible refine Below.drew ?_ | with_reducible refine Below.drewN ?_ _))) (hb.mono (by simp <;> omega))
      clear hb
      go_wp2_with fail
      refine (isPerm_p f _ hv).mono ?_
      rintro e w2 ⟨rfl, hb⟩
      rw [Hp.out]
      replace hs := hs.below hb hs.lt
      replace hB := hB.below hb hB.lt
      replace hbel := hbel.trans (hb.mono hbel.size)
      clear hb
      go_wp2_with fail
      refine (inverse_p f _ hv Hp.out).mono ?_
      rintro e w3 ⟨rfl, hb⟩
      replace hB := hB.below hb hB.lt
      replace hbel := hbel.trans (hb.mono hbel.size)
      clear hb
      obtain ⟨e0, e1, e2, e3, e4, e5⟩ := hB.six
      obtain ⟨z0, z1, z2, z3, z4, z5⟩ := hB.fr6
      go_wp2
      refine bodyPost_ret (v := .tuple #[.agg (mc (inv f)), I 0]) ?_ rfl ⟨by rw [Hr.out.1, Hr.out.2], by (repeat (first | with_reducible assumption | with_reducible exact Below.refl _ _ | with_reducible refine Below.setCell ?_ (by first | omega | (simp <;> omega)) _ | with_reducible refine Below.alloc ?_ (by first | omega | (simp <;> omega)) _ | with_reducible refine Below.drew ?_ | with_reducible refine Below.drewN ?_ _))⟩
      simp [results, Try.results20, go_sem, *]
      try exact ⟨rfl, rfl, rfl, rfl, rfl, rfl⟩

theorem SpecRen_any (f p : M) (w : World) (hf : Valid f) (hp : Valid p) (he : f.p = p.p) (hq : isP p = true) :
    Calls Try.prog 65 #[.agg (mc f), .agg (mc p)] w fun e w' => e = .returned (.agg (mc (ren f p))) ∧ Below w.heap.size w w' := by
  have hv1 := inv_valid hp
  have hv2 : Valid (mul (inv p) f) := Valid.mul hv1 hf (by rw [p_inv, he])
  clear he
  obtain ⟨r, hr⟩ : ∃ r, r = ren f p := ⟨_, rfl⟩
  have Hr : Hid (mul (mul (inv p) f) p = r) := by show _ = _; rw [hr]; rfl
  rw [← hr]
  clear hr
  go_enter Try.func65, Try.ntmps65
  go_wp2_with fail
  refine wp_region_last [] rfl (by kernel_rfl) (by kernel_rfl) (by kernel_rfl) (by kernel_rfl)
    (fun w' => Six w' w.heap.size f ∧ Six w' (w.heap.size + 1) p ∧ Blk w' (w.heap.size + 1 + 1) 26 (mc M0) ∧ Below w.heap.size w w')
    (fun w' => Blk w' (w.heap.size + 1 + 1) 26 (mc r) ∧ Below w.heap.size w w') _
    [.agg (mc p), .agg (mc (inv p)), .agg (mc f), .agg (mc (mul (inv p) f)), .agg (mc p), .agg (mc r), undef]
    (by simp only [putAll, List.setIfInBounds_toArray, List.set_cons_succ, List.set_cons_zero]; rfl) ?hS 6 _ rfl rfl ?hop ?hst ?hQ
  case hS => exact ⟨Blk.six (Blk.drew (((Blk.new w _ _).alloc _).alloc _)), Blk.six (Blk.drew ((Blk.new' _ _ _ (by simp)).alloc _)), Blk.drew (Blk.new' _ _ _ (by simp)), by (repeat (first | with_reducible assumption | with_reducible exact Below.refl _ _ | with_reducible refine Below.setCell ?_ (by first | omega | (simp <;> omega)) _ | with_reducible refine Below.alloc ?_ (by first | omega | (simp <;> omega)) _ | with_reducible refine Below.drew ?_ | with_reducible refine Below.drewN ?_ _))⟩
  case hop =>
    refine FixBL.toL (fun w' w'' hS hb => ⟨hS.1.below hb hS.1.lt, hS.2.1.below hb hS.2.1.lt, hS.2.2.1.below hb hS.2.2.1.lt, hS.2.2.2.trans (hb.mono hS.2.2.2.size)⟩) _ _ ?_
    refine ⟨.inr ?_, .inr ?_, .inr ?_, .inr ?_, .inr ?_, .inr ?_, .inl rfl, trivial⟩
    · (with_reducible refine FixB.of ?_ ?_; rfl; intro w' hS; have s0 := hS.1; have s1 := hS.2.1; clear hS; unfold Oper.wp; go_simp; first | done | exact Below.refl _ _)
    · (with_reducible refine FixB.of ?_ ?_; rfl; intro w' hS; have s3 := Lib.hid hS; unfold Oper.wp; clear hS; go_simp; refine (l01Inverse_p p _ hp hq).mono ?_; rintro e w1 ⟨rfl, hb⟩; exact ⟨rfl, hb⟩)
    · (with_reducible refine FixB.of ?_ ?_; rfl; intro w' hS; have s0 := hS.1; have s1 := hS.2.1; clear hS; unfold Oper.wp; go_simp; first | done | exact Below.refl _ _)
    · (with_reducible refine FixB.of ?_ ?_; rfl; intro w' hS; have s3 := Lib.hid hS; unfold Oper.wp; clear hS; go_simp; refine (l01Times_any (inv p) f _ hv1).mono ?_; rintro e w1 ⟨rfl, hb⟩; exact ⟨rfl, hb⟩)
    · (with_reducible refine FixB.of ?_ ?_; rfl; intro w' hS; have s0 := hS.1; have s1 := hS.2.1; clear hS; unfold Oper.wp; go_simp; first | done | exact Below.refl _ _)
    · (with_reducible refine FixB.of ?_ ?_; rfl; intro w' hS; have s3 := Lib.hid hS; unfold Oper.wp; clear hS; go_simp; refine ((Hr.out ▸ l01Times_any (mul (inv p) f) p _ hv2)).mono ?_; rintro e w1 ⟨rfl, hb⟩; exact ⟨rfl, hb⟩)
  case hst =>
    refine ⟨rfl, fun w' hS => ?_⟩
    have s3 := Lib.hid hS
    have d := hS.2.2.1.six
    have z := hS.2.2.1.fr6
    clear hS
    unfold Oper.wp
    go_simp
    exact ⟨s3.out.2.2.1.st6 _, below_st6 s3.out.2.2.2 (by omega) _⟩
  case hQ =>
    intro w' hS
    obtain ⟨hB, hbel⟩ := hS
    obtain ⟨d0, d1, d2, d3, d4, d5⟩ := hB.six
    go_wp2
    refine bodyPost_ret (v := .agg (mc r)) ?_ rfl ⟨rfl, hbel⟩
    simp [results, Try.results65, go_sem, *]

theorem ImplRen_any (f p : M) (w : World) (hf : Valid f) (hp : Valid p) (he : f.p = p.p) (hq : isP p = true) :
    Calls Try.prog 63 #[.agg (mc f), .agg (mc p)] w fun e w' => e = .returned (.agg (mc (ren f p))) ∧ Below w.heap.size w w' := by
  have hv1 := inv_valid hp
  have hv2 : Valid (mul (inv p) f) := Valid.mul hv1 hf (by rw [p_inv, he])
  clear he
  obtain ⟨r, hr⟩ : ∃ r, r = ren f p := ⟨_, rfl⟩
  have Hr : Hid (mul (mul (inv p) f) p = r) := by show _ = _; rw [hr]; rfl
  rw [← hr]
  clear hr
  go_enter Try.func63, Try.ntmps63
  go_wp2_with fail
  refine wp_region_last [] rfl (by kernel_rfl) (by kernel_rfl) (by kernel_rfl) (by kernel_rfl)
    (fun w' => Six w' w.heap.size f ∧ Six w' (w.heap.size + 1) p ∧ Blk w' (w.heap.size + 1 + 1) 26 (mc M0) ∧ Below w.heap.size w w')
    (fun w' => Blk w' (w.heap.size + 1 + 1) 26 (mc r) ∧ Below w.heap.size w w') _
    [.agg (mc p), .agg (mc (inv p)), .agg (mc f), .agg (mc (mul (inv p) f)), .agg (mc p), .agg (mc r), undef]
    (by simp only [putAll, List.setIfInBounds_toArray, List.set_cons_succ, List.set_cons_zero]; rfl) ?hS 6 _ rfl rfl ?hop ?hst ?hQ
  case hS => exact ⟨Blk.six (Blk.drew (((Blk.new w _ _).alloc _).alloc _)), Blk.six (Blk.drew ((Blk.new' _ _ _ (by simp)).alloc _)), Blk.drew (Blk.new' _ _ _ (by simp)), by (repeat (first | with_reducible assumption | with_reducible exact Below.refl _ _ | with_reducible refine Below.setCell ?_ (by first | omega | (simp <;> omega)) _ | with_reducible refine Below.alloc ?_ (by first | omega | (simp <;> omega)) _ | with_reducible refine Below.drew ?_ | with_reducible refine Below.drewN ?_ _))⟩
  case hop =>
    refine FixBL.toL (fun w' w'' hS hb => ⟨hS.1.below hb hS.1.lt, hS.2.1.below hb hS.2.1.lt, hS.2.2.1.below hb hS.2.2.1.lt, hS.2.2.2.trans (hb.mono hS.2.2.2.size)⟩) _ _ ?_
    refine ⟨.inr ?_, .inr ?_, .inr ?_, .inr ?_, .inr ?_, .inr ?_, .inl rfl, trivial⟩
    · (with_reducible refine FixB.of ?_ ?_; rfl; intro w' hS; have s0 := hS.1; have s1 := hS.2.1; clear hS; unfold Oper.wp; go_simp; first | done | exact Below.refl _ _)
    · (with_reducible refine FixB.of ?_ ?_; rfl; intro w' hS; have s3 := Lib.hid hS; unfold Oper.wp; clear hS; go_simp; refine (inverse_p p _ hp hq).mono ?_; rintro e w1 ⟨rfl, hb⟩; exact ⟨rfl, hb⟩)
    · (with_reducible refine FixB.of ?_ ?_; rfl; intro w' hS; have s0 := hS.1; have s1 := hS.2.1; clear hS; unfold Oper.wp; go_simp; first | done | exact Below.refl _ _)
    · (with_reducible refine FixB.of ?_ ?_; rfl; intro w' hS; have s3 := Lib.hid hS; unfold Oper.wp; clear hS; go_simp; refine (times_any (inv p) f _ hv1).mono ?_; rintro e w1 ⟨rfl, hb⟩; exact ⟨rfl, hb⟩)
    · (with_reducible refine FixB.of ?_ ?_; rfl; intro w' hS; have s0 := hS.1; have s1 := hS.2.1; clear hS; unfold Oper.wp; go_simp; first | done | exact Below.refl _ _)
    · (with_reducible refine FixB.of ?_ ?_; rfl; intro w' hS; have s3 := Lib.hid hS; unfold Oper.wp; clear hS; go_simp; refine ((Hr.out ▸ times_any (mul (inv p) f) p _ hv2)).mono ?_; rintro e w1 ⟨rfl, hb⟩; exact ⟨rfl, hb⟩)
  case hst =>
    refine ⟨rfl, fun w' hS => ?_⟩
    have s3 := Lib.hid hS
    have d := hS.2.2.1.six
    have z := hS.2.2.1.fr6
    clear hS
    unfold Oper.wp
    go_simp
    exact ⟨s3.out.2.2.1.st6 _, below_st6 s3.out.2.2.2 (by omega) _⟩
  case hQ =>
    intro w' hS
    obtain ⟨hB, hbel⟩ := hS
    obtain ⟨d0, d1, d2, d3, d4, d5⟩ := hB.six
    go_wp2
    refine bodyPost_ret (v := .agg (mc r)) ?_ rfl ⟨rfl, hbel⟩
    simp [results, Try.results63, go_sem, *]

theorem SpecRenumber_any (f p : M) (w : World) :
    Calls Try.prog 25 #[.agg (mc f), .agg (mc p)] w fun e w' => e = .returned (.tuple #[.agg (mc (rnR f p)), I (rnC f p)]) ∧ Below w.heap.size w w' := by
  by_cases hc : codeLike f p = 0
  · obtain ⟨hf, hpv, he⟩ := like_ok hc
    have He := Lib.hid he
    clear he
    have hcb : (codeLike f p != 0) = false := by simp [hc]
    cases hp : isP p
    · have Hr := Lib.hid (rn_no hc hp)
      have Hp := Lib.hid hp
      have hpn := isP_ne p
      rw [hp] at hpn
      clear hp hc
      go_enter Try.func25, Try.ntmps25
      go_wp2_with fail
      refine (l01Like_any f p _).mono ?_
      rintro e w1 ⟨rfl, hb⟩
      have hs : Six w1 w.heap.size f := Six.below (Blk.six (((Blk.new w _ _).alloc _).alloc _)) hb (by simp <;> omega)
      have hs2 : Six w1 (w.heap.size + 1) p := Six.below (Blk.six ((Blk.new' _ _ _ (by simp)).alloc _)) hb (by simp <;> omega)
      have hB : Blk w1 (w.heap.size + 1 + 1) 26 (mc M0) := Blk.below (Blk.new' _ _ _ (by simp)) hb (by simp <;> omega)
      have hbel : Below w.heap.size w w1 := Below.trans (by (repeat (first | with_reducible assumption | with_reducible exact Below.refl _ _ | with_reducible refine Below.setCell ?_ (by first | omega | (simp <;> omega)) _ | with_reducible refine Below.alloc ?_ (by first | omega | (simp <;> omega)) _ | with_reducible refine Below.drew ?_ | with_reducible refine Below.drewN ?_ _))) (hb.mono (by simp <;> omega))
      clear hb
      have HS : Hid (Six w1.drew w.heap.size f ∧ Six w1.drew (w.heap.size + 1) p ∧ Blk w1.drew (w.heap.size + 1 + 1) 26 (mc M0) ∧ Below w.heap.size w w1.drew) := ⟨hs, hs2, hB, hbel.drew⟩
      clear hs hs2 hB hbel
      go_wp2_with fail
      refine wp_region_same [] rfl (by kernel_rfl) (by kernel_rfl) (by kernel_rfl) (fun w' => Six w' w.heap.size f ∧ Six w' (w.heap.size + 1) p ∧ Blk w' (w.heap.size + 1 + 1) 26 (mc M0) ∧ Below w.heap.size w w') _
        [.agg (mc p), I (rk p), .pointer (some ⟨w.heap.size + 1, 0, none⟩), I p.p, .bool true]
        (by simp only [putAll, List.setIfInBounds_toArray, List.set_cons_succ, List.set_cons_zero]; rfl) HS.out ?hop ?hQ
      case hop =>
        refine FixBL.toL (fun w' w'' hS hb => ⟨hS.1.below hb hS.1.lt, hS.2.1.below hb hS.2.1.lt, hS.2.2.1.below hb hS.2.2.1.lt, hS.2.2.2.trans (hb.mono hS.2.2.2.size)⟩) _ _ ?_
        refine ⟨.inr ?_, .inr ?_, .inr ?_, .inr ?_, .inr ?_, trivial⟩
        · (with_reducible refine FixB.of ?_ ?_; rfl; intro w' hS; have s0 := hS.2.1; clear hS; unfold Oper.wp; go_simp; first | done | exact Below.refl _ _)
        · (with_reducible refine FixB.of ?_ ?_; rfl; intro w' hS; have s3 := Lib.hid hS; unfold Oper.wp; clear hS; go_simp; refine (l01Rank_any p _ hpv).mono ?_; rintro e w1 ⟨rfl, hb⟩; exact ⟨rfl, hb⟩)
        · (with_reducible refine FixB.of ?_ ?_; rfl; intro w' hS; have s0 := hS.2.1; clear hS; unfold Oper.wp; go_simp; first | done | exact Below.refl _ _)
        · (with_reducible refine FixB.of ?_ ?_; rfl; intro w' hS; have s0 := hS.2.1; clear hS; unfold Oper.wp; go_simp; first | done | exact Below.refl _ _)
        · (with_reducible refine FixB.of ?_ ?_; rfl; intro w' hS; have s0 := hS.2.1; clear hS; unfold Oper.wp; go_simp; first | done | exact Below.refl _ _)
      case hQ =>
       intro w2 hS _
       obtain ⟨hs, hs2, hB, hbel⟩ := hS
       clear HS
       obtain ⟨e0, e1, e2, e3, e4, e5⟩ := hB.six
       obtain ⟨z0, z1, z2, z3, z4, z5⟩ := hB.fr6
       go_wp2
       refine bodyPost_ret (v := .tuple #[.agg (mc M0), I 5]) ?_ rfl ⟨by rw [Hr.out.1, Hr.out.2], by (repeat (first | with_reducible assumption | with_reducible exact Below.refl _ _ | with_reducible refine Below.setCell ?_ (by first | omega | (simp <;> omega)) _ | with_reducible refine Below.alloc ?_ (by first | omega | (simp <;> omega)) _ | with_reducible refine Below.drew ?_ | with_reducible refine Below.drewN ?_ _))⟩
       simp [results, Try.results25, go_sem, *]
       try exact ⟨rfl, rfl, rfl, rfl, rfl, rfl⟩
    · have Hr := Lib.hid (rn_yes hc hp)
      have Hp := Lib.hid hp
      have hpn := isP_ne p
      rw [hp] at hpn
      clear hp hc
      go_enter Try.func25, Try.ntmps25
      go_wp2_with fail
      refine (l01Like_any f p _).mono ?_
      rintro e w1 ⟨rfl, hb⟩
      have hs : Six w1 w.heap.size f := Six.below (Blk.six (((Blk.new w _ _).alloc _).alloc _)) hb (by simp <;> omega)
      have hs2 : Six w1 (w.heap.size + 1) p := Six.below (Blk.six ((Blk.new' _ _ _ (by simp)).alloc _)) hb (by simp <;> omega)
      have hB : Blk w1 (w.heap.size + 1 + 1) 26 (mc M0) := Blk.below (Blk.new' _ _ _ (by simp)) hb (by simp <;> omega)
      have hbel : Below w.heap.size w w1 := Below.trans (by (repeat (first | with_reducible assumption | with_reducible exact Below.refl _ _ | with_reducible refine Below.setCell ?_ (by first | omega | (simp <;> omega)) _ | with_reducible refine Below.alloc ?_ (by first | omega | (simp <;> omega)) _ | with_reducible refine Below.drew ?_ | with_reducible refine Below.drewN ?_ _))) (hb.mono (by simp <;> omega))
      clear hb
      have HS : Hid (Six w1.drew w.heap.size f ∧ Six w1.drew (w.heap.size + 1) p ∧ Blk w1.drew (w.heap.size + 1 + 1) 26 (mc M0) ∧ Below w.heap.size w w1.drew) := ⟨hs, hs2, hB, hbel.drew⟩
      clear hs hs2 hB hbel
      go_wp2_with fail
      refine wp_region_same [] rfl (by kernel_rfl) (by kernel_rfl) (by kernel_rfl) (fun w' => Six w' w.heap.size f ∧ Six w' (w.heap.size + 1) p ∧ Blk w' (w.heap.size + 1 + 1) 26 (mc M0) ∧ Below w.heap.size w w') _
        [.agg (mc p), I (rk p), .pointer (some ⟨w.heap.size + 1, 0, none⟩), I p.p, .bool false]
        (by simp only [putAll, List.setIfInBounds_toArray, List.set_cons_succ, List.set_cons_zero]; rfl) HS.out ?hop ?hQ
      case hop =>
        refine FixBL.toL (fun w' w'' hS hb => ⟨hS.1.below hb hS.1.lt, hS.2.1.below hb hS.2.1.lt, hS.2.2.1.below hb hS.2.2.1.lt, hS.2.2.2.trans (hb.mono hS.2.2.2.size)⟩) _ _ ?_
        refine ⟨.inr ?_, .inr ?_, .inr ?_, .inr ?_, .inr ?_, trivial⟩
        · (with_reducible refine FixB.of ?_ ?_; rfl; intro w' hS; have s0 := hS.2.1; clear hS; unfold Oper.wp; go_simp; first | done | exact Below.refl _ _)
        · (with_reducible refine FixB.of ?_ ?_; rfl; intro w' hS; have s3 := Lib.hid hS; unfold Oper.wp; clear hS; go_simp; refine (l01Rank_any p _ hpv).mono ?_; rintro e w1 ⟨rfl, hb⟩; exact ⟨rfl, hb⟩)
        · (with_reducible refine FixB.of ?_ ?_; rfl; intro w' hS; have s0 := hS.2.1; clear hS; unfold Oper.wp; go_simp; first | done | exact Below.refl _ _)
        · (with_reducible refine FixB.of ?_ ?_; rfl; intro w' hS; have s0 := hS.2.1; clear hS; unfold Oper.wp; go_simp; first | done | exact Below.refl _ _)
        · (with_reducible refine FixB.of ?_ ?_; rfl; intro w' hS; have s0 := hS.2.1; clear hS; unfold Oper.wp; go_simp; first | done | exact Below.refl _ _)
      case hQ =>
       intro w2 hS _
       obtain ⟨hs, hs2, hB, hbel⟩ := hS
       clear HS
       go_wp2_with fail
       refine (SpecRen_any f p _ hf hpv He.out Hp.out).mono ?_
       rintro e w3 ⟨rfl, hb⟩
       replace hB := hB.below hb hB.lt
       replace hbel := hbel.trans (hb.mono hbel.size)
       clear hb
       obtain ⟨e0, e1, e2, e3, e4, e5⟩ := hB.six
       obtain ⟨z0, z1, z2, z3, z4, z5⟩ := hB.fr6
       go_wp2
       refine bodyPost_ret (v := .tuple #[.agg (mc (ren f p)), I 0]) ?_ rfl ⟨by rw [Hr.out.1, Hr.out.2], by (repeat (first | with_reducible assumption | with_reducible exact Below.refl _ _ | with_reducible refine Below.setCell ?_ (by first | omega | (simp <;> omega)) _ | with_reducible refine Below.alloc ?_ (by first | omega | (simp <;> omega)) _ | with_reducible refine Below.drew ?_ | with_reducible refine Below.drewN ?_ _))⟩
       simp [results, Try.results25, go_sem, *]
       try exact ⟨rfl, rfl, rfl, rfl, rfl, rfl⟩
  · have hcb : (codeLike f p != 0) = true := by simp [hc]
    have Hr := Lib.hid (rn_bad hc)
    clear hc
    go_enter Try.func25, Try.ntmps25
    go_wp2_with fail
    refine (l01Like_any f p _).mono ?_
    rintro e w1 ⟨rfl, hb⟩
    have hs : Six w1 w.heap.size f := Six.below (Blk.six (((Blk.new w _ _).alloc _).alloc _)) hb (by simp <;> omega)
    have hs2 : Six w1 (w.heap.size + 1) p := Six.below (Blk.six ((Blk.new' _ _ _ (by simp)).alloc _)) hb (by simp <;> omega)
    have hB : Blk w1 (w.heap.size + 1 + 1) 26 (mc M0) := Blk.below (Blk.new' _ _ _ (by simp)) hb (by simp <;> omega)
    have hbel : Below w.heap.size w w1 := Below.trans (by (repeat (first | with_reducible assumption | with_reducible exact Below.refl _ _ | with_reducible refine Below.setCell ?_ (by first | omega | (simp <;> omega)) _ | with_reducible refine Below.alloc ?_ (by first | omega | (simp <;> omega)) _ | with_reducible refine Below.drew ?_ | with_reducible refine Below.drewN ?_ _))) (hb.mono (by simp <;> omega))
    clear hb
    obtain ⟨e0, e1, e2, e3, e4, e5⟩ := hB.six
    obtain ⟨z0, z1, z2, z3, z4, z5⟩ := hB.fr6
    go_wp2
    refine bodyPost_ret (v := .tuple #[.agg (mc M0), I (codeLike f p)]) ?_ rfl ⟨by rw [Hr.out.1, Hr.out.2], by (repeat (first | with_reducible assumption | with_reducible exact Below.refl _ _ | with_reducible refine Below.setCell ?_ (by first | omega | (simp <;> omega)) _ | with_reducible refine Below.alloc ?_ (by first | omega | (simp <;> omega)) _ | with_reducible refine Below.drew ?_ | with_reducible refine Below.drewN ?_ _))⟩
    simp [results, Try.results25, go_sem, *]
    try exact ⟨rfl, rfl, rfl, rfl, rfl, rfl⟩

theorem ImplRenumber_any (f p : M) (w : World) :
    Calls Try.prog 24 #[.agg (mc f), .agg (mc p)] w fun e w' => e = .returned (.tuple #[.agg (mc (rnR f p)), I (rnC f p)]) ∧ Below w.heap.size w w' := by
  by_cases hc : codeLike f p = 0
  · obtain ⟨hf, hpv, he⟩ := like_ok hc
    have He := Lib.hid he
    clear he
    have hcb : (codeLike f p != 0) = false := by simp [hc]
    cases hp : isP p
    · have Hr := Lib.hid (rn_no hc hp)
      have Hp := Lib.hid hp
      have hpn := isP_ne p
      rw [hp] at hpn
      clear hp hc
      go_enter Try.func24, Try.ntmps24
      go_wp2_with fail
      refine (pairCode_any f p _).mono ?_
      rintro e w1 ⟨rfl, hb⟩
      have hs : Six w1 w.heap.size f := Six.below (Blk.six (((Blk.new w _ _).alloc _).alloc _)) hb (by simp <;> omega)
      have hs2 : Six w1 (w.heap.size + 1) p := Six.below (Blk.six ((Blk.new' _ _ _ (by simp)).alloc _)) hb (by simp <;> omega)
      have hB : Blk w1 (w.heap.size + 1 + 1) 26 (mc M0) := Blk.below (Blk.new' _ _ _ (by simp)) hb (by simp <;> omega)
      have hbel : Below w.heap.size w w1 := Below.trans (by (repeat (first | with_reducible assumption | with_reducible exact Below.refl _ _ | with_reducible refine Below.setCell ?_ (by first | omega | (simp <;> omega)) _ | with_reducible refine Below.alloc ?_ (by first | omega | (simp <;> omega)) _ | with_reducible refine Below.drew ?_ | with_reducible refine Below.drewN ?_ _))) (hb.mono (by simp <;> omega))
      clear hb
      go_wp2_with fail
      refine (isPerm_p p _ hpv).mono ?_
      rintro e w2 ⟨rfl, hb⟩
      rw [Hp.out]
      replace hs := hs.below hb hs.lt
      replace hs2 := hs2.below hb hs2.lt
      replace hB := hB.below hb hB.lt
      replace hbel := hbel.trans (hb.mono hbel.size)
      clear hb
      obtain ⟨e0, e1, e2, e3, e4, e5⟩ := hB.six
      obtain ⟨z0, z1, z2, z3, z4, z5⟩ := hB.fr6
      go_wp2
      refine bodyPost_ret (v := .tuple #[.agg (mc M0), I 5]) ?_ rfl ⟨by rw [Hr.out.1, Hr.out.2], by (repeat (first | with_reducible assumption | with_reducible exact Below.refl _ _ | with_reducible refine Below.setCell ?_ (by first | omega | (simp <;> omega)) _ | with_reducible refine Below.alloc ?_ (by first | omega | (simp <;> omega)) _ | with_reducible refine Below.drew ?_ | with_reducible refine Below.drewN ?_ _))⟩
      simp [results, Try.results24, go_sem, *]
      try exact ⟨rfl, rfl, rfl, rfl, rfl, rfl⟩
    · have Hr := Lib.hid (rn_yes hc hp)
      have Hp := Lib.hid hp
      have hpn := isP_ne p
      rw [hp] at hpn
      clear hp hc
      go_enter Try.func24, Try.ntmps24
      go_wp2_with fail
      refine (pairCode_any f p _).mono ?_
      rintro e w1 ⟨rfl, hb⟩
      have hs : Six w1 w.heap.size f := Six.below (Blk.six (((Blk.new w _ _).alloc _).alloc _)) hb (by simp <;> omega)
      have hs2 : Six w1 (w.heap.size + 1) p := Six.below (Blk.six ((Blk.new' _ _ _ (by simp)).alloc _)) hb (by simp <;> omega)
      have hB : Blk w1 (w.heap.size + 1 + 1) 26 (mc M0) := Blk.below (Blk.new' _ _ _ (by simp)) hb (by simp <;> omega)
      have hbel : Below w.heap.size w w1 := Below.trans (by (repeat (first | with_reducible assumption | with_reducible exact Below.refl _ _ | with_reducible refine Below.setCell ?_ (by first | omega | (simp <;> omega)) _ | with_reducible refine Below.alloc ?_ (by first | omega | (simp <;> omega)) _ | with_reducible refine Below.drew ?_ | with_reducible refine Below.drewN ?_ _))) (hb.mono (by simp <;> omega))
      clear hb
      go_wp2_with fail
      refine (isPerm_p p _ hpv).mono ?_
      rintro e w2 ⟨rfl, hb⟩
      rw [Hp.out]
      replace hs := hs.below hb hs.lt
      replace hs2 := hs2.below hb hs2.lt
      replace hB := hB.below hb hB.lt
      replace hbel := hbel.trans (hb.mono hbel.size)
      clear hb
      go_wp2_with fail
      refine (ImplRen_any f p _ hf hpv He.out Hp.out).mono ?_
      rintro e w3 ⟨rfl, hb⟩
      replace hB := hB.below hb hB.lt
      replace hbel := hbel.trans (hb.mono hbel.size)
      clear hb
      obtain ⟨e0, e1, e2, e3, e4, e5⟩ := hB.six
      obtain ⟨z0, z1, z2, z3, z4, z5⟩ := hB.fr6
      go_wp2
      refine bodyPost_ret (v := .tuple #[.agg (mc (ren f p)), I 0]) ?_ rfl ⟨by rw [Hr.out.1, Hr.out.2], by (repeat (first | with_reducible assumption | with_reducible exact Below.refl _ _ | with_reducible refine Below.setCell ?_ (by first | omega | (simp <;> omega)) _ | with_reducible refine Below.alloc ?_ (by first | omega | (simp <;> omega)) _ | with_reducible refine Below.drew ?_ | with_reducible refine Below.drewN ?_ _))⟩
      simp [results, Try.results24, go_sem, *]
      try exact ⟨rfl, rfl, rfl, rfl, rfl, rfl⟩
  · have hcb : (codeLike f p != 0) = true := by simp [hc]
    have Hr := Lib.hid (rn_bad hc)
    clear hc
    go_enter Try.func24, Try.ntmps24
    go_wp2_with fail
    refine (pairCode_any f p _).mono ?_
    rintro e w1 ⟨rfl, hb⟩
    have hs : Six w1 w.heap.size f := Six.below (Blk.six (((Blk.new w _ _).alloc _).alloc _)) hb (by simp <;> omega)
    have hs2 : Six w1 (w.heap.size + 1) p := Six.below (Blk.six ((Blk.new' _ _ _ (by simp)).alloc _)) hb (by simp <;> omega)
    have hB : Blk w1 (w.heap.size + 1 + 1) 26 (mc M0) := Blk.below (Blk.new' _ _ _ (by simp)) hb (by simp <;> omega)
    have hbel : Below w.heap.size w w1 := Below.trans (by (repeat (first | with_reducible assumption | with_reducible exact Below.refl _ _ | with_reducible refine Below.setCell ?_ (by first | omega | (simp <;> omega)) _ | with_reducible refine Below.alloc ?_ (by first | omega | (simp <;> omega)) _ | with_reducible refine Below.drew ?_ | with_reducible refine Below.drewN ?_ _))) (hb.mono (by simp <;> omega))
    clear hb
    obtain ⟨e0, e1, e2, e3, e4, e5⟩ := hB.six
    obtain ⟨z0, z1, z2, z3, z4, z5⟩ := hB.fr6
    go_wp2
    refine bodyPost_ret (v := .tuple #[.agg (mc M0), I (codeLike f p)]) ?_ rfl ⟨by rw [Hr.out.1, Hr.out.2], by (repeat (first | with_reducible assumption | with_reducible exact Below.refl _ _ | with_reducible refine Below.setCell ?_ (by first | omega | (simp <;> omega)) _ | with_reducible refine Below.alloc ?_ (by first | omega | (simp <;> omega)) _ | with_reducible refine Below.drew ?_ | with_reducible refine Below.drewN ?_ _))⟩
    simp [results, Try.results24, go_sem, *]
    try exact ⟨rfl, rfl, rfl, rfl, rfl, rfl⟩

end Go.Proofs.Ytkbfocoaobiijaa
