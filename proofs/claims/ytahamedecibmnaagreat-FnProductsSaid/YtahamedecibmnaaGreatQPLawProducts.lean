/- The walk of the statement on products; the code lies below the heap's end. -/
import Derived.Test.YtahamedecibmnaaGreatQP06
import Derived.Deep.DeepCutAuto
set_option linter.unusedSimpArgs false
set_option linter.unusedVariables false
namespace Go.Proofs.YtahamedecibmnaaGreat
open Go.RowKit
set_option maxRecDepth 100000
set_option linter.unusedSimpArgs false
set_option linter.unusedVariables false
theorem OwI.readP {e : TypeId} {w : World} {B n c : Nat} {A : Option Addr} {ms : List Int} (h : OwI e w B (.slice A n c) ms) : RdI w w.heap.size A ms := by
  obtain ⟨A', c', h1, hr⟩ := h.form
  injection h1 with h1 _ _
  rw [h1]; exact hr
set_option maxHeartbeats 40000000 in
theorem lawProducts (A : Option Addr) (n c : Nat) (zs : List Int) (w : World) (hx : RdU w w.heap.size A zs) (hn : zs.length = n) :
    Calls Tryz.prog 3 #[.slice A n c] w fun e w' => e = .returned (.bool true) ∧ Below w.heap.size w w' := by
  by_cases hbig : 4096 < n
  · have HG : Hid (∀ w, Calls Tryz.prog 4 #[.slice A n c] w fun e w' => e = .returned (.bool true) ∧ Below w.heap.size w w') := fun w => by have h := big_any A n c w; rw [decide_eq_true hbig] at h; exact h
    clear hx
    go_enter Tryz.func3, Tryz.ntmps3
    go_wp2_with fail
    refine (HG.out w).mono ?_
    rintro e w1 ⟨rfl, hb⟩
    go_wp2
    go_ret
    exact ⟨rfl, hb⟩
  have HG : Hid (∀ w, Calls Tryz.prog 4 #[.slice A n c] w fun e w' => e = .returned (.bool false) ∧ Below w.heap.size w w') := fun w => by have h := big_any A n c w; rw [decide_eq_false hbig] at h; exact h
  have Hn := Lib.hid hn
  have HX_0 := Lib.hid hx
  have HB_0 := Lib.hid (Below.refl w.heap.size w)
  have hbd : n < 4611686018427387904 := by omega
  have HnB := Lib.hid (show n ≤ 4096 by omega)
  clear hx hbig hn
  go_enter Tryz.func3, Tryz.ntmps3
  go_wp2_with fail
  refine (HG.out w).mono ?_
  rintro e w1 ⟨rfl, hb⟩
  have HB_1 := Lib.hid (HB_0.out.trans (hb.mono HB_0.out.size))
  have HX_1 := Lib.hid (HX_0.out.on hb)
  clear hb HB_0 HX_0
  clear HG
  go_wp2_with fail
  refine (DrawProductOf_any (A := A) (n := n) (c := c) w1 HX_1.out Hn.out hbd).mono ?_
  rintro e w2 ⟨f, g, rfl, hb⟩
  have HB_2 := Lib.hid (HB_1.out.trans (hb.mono HB_1.out.size))
  have HX_2 := Lib.hid (HX_1.out.on hb)
  clear hb HB_1 HX_1
  obtain ⟨P, hP⟩ : ∃ P, mulR f g = P := ⟨_, rfl⟩
  obtain ⟨cp, hcp⟩ : ∃ cp, codeLike f g = cp := ⟨_, rfl⟩
  obtain ⟨mf, hmf⟩ : ∃ mf, isMap f = mf := ⟨_, rfl⟩
  have ecp : (cp != cp) = false := by simp
  have emf : (mf != mf) = false := by simp
  have HP1 : Hid (∀ wx, Calls Tryz.prog 6 #[.agg (mc f), .agg (mc g)] wx fun e w' => e = .returned (.tuple #[.agg (mc P), I cp]) ∧ Below wx.heap.size wx w') := fun wx => by have h := ImplProduct_any f g wx; rw [hP, hcp] at h; exact h
  have HP2 : Hid (∀ wx, Calls Tryz.prog 7 #[.agg (mc f), .agg (mc g)] wx fun e w' => e = .returned (.tuple #[.agg (mc P), I cp]) ∧ Below wx.heap.size wx w') := fun wx => by have h := SpecProduct_any f g wx; rw [hP, hcp] at h; exact h
  have HM1 : Hid (∀ wx, Calls Tryz.prog 8 #[.agg (mc f)] wx fun e w' => e = .returned (.bool mf) ∧ Below wx.heap.size wx w') := fun wx => by have h := isMap_any f wx; rw [hmf] at h; exact h
  have HM2 : Hid (∀ wx, Calls Tryz.prog 9 #[.agg (mc f)] wx fun e w' => e = .returned (.bool mf) ∧ Below wx.heap.size wx w') := fun wx => by have h := SpecIsMap_any f wx; rw [hmf] at h; exact h
  have HhP := Lib.hid hP
  have Hhc := Lib.hid hcp
  clear hP hcp hmf
  have heq := eqMap_run P P
  rw [decide_eq_true rfl] at heq
  have hb : Below w2.heap.size w2 (w2.alloc (.cells (mc f) 26)) := (Below.refl _ _).alloc (Nat.le_refl _) _
  have HB_3 := Lib.hid (HB_2.out.trans (hb.mono HB_2.out.size))
  have HX_3 := Lib.hid (HX_2.out.on hb)
  have F_3 := Lib.hid (show Blk (w2.alloc (.cells (mc f) 26)) w2.heap.size 26 (mc f) from Blk.new _ _ _)
  clear hb HB_2 HX_2
  obtain ⟨xF0, xF1, xF2, xF3, xF4, xF5⟩ := F_3.out.six
  clear xF0 xF1 xF2 xF3 xF4 xF5
  have hb : Below (w2.alloc (.cells (mc f) 26)).heap.size (w2.alloc (.cells (mc f) 26)) ((w2.alloc (.cells (mc f) 26)).alloc (.cells (mc g) 26)) := (Below.refl _ _).alloc (Nat.le_refl _) _
  have HB_4 := Lib.hid (HB_3.out.trans (hb.mono HB_3.out.size))
  have HX_4 := Lib.hid (HX_3.out.on hb)
  have F_4 := Lib.hid (F_3.out.on hb)
  have J_4 := Lib.hid (show Blk ((w2.alloc (.cells (mc f) 26)).alloc (.cells (mc g) 26)) (w2.heap.size + 1) 26 (mc g) from Blk.new' _ _ _ (by simp))
  clear hb HB_3 HX_3 F_3
  obtain ⟨xJ0, xJ1, xJ2, xJ3, xJ4, xJ5⟩ := J_4.out.six
  obtain ⟨xF0, xF1, xF2, xF3, xF4, xF5⟩ := F_4.out.six
  go_wp2_with fail
  refine (HP1.out _).mono ?_
  rintro e w5 ⟨rfl, hb⟩
  have HB_5 := Lib.hid (HB_4.out.trans (hb.mono HB_4.out.size))
  have HX_5 := Lib.hid (HX_4.out.on hb)
  have F_5 := Lib.hid (F_4.out.on hb)
  have J_5 := Lib.hid (J_4.out.on hb)
  clear hb HB_4 HX_4 F_4 J_4
  clear HP1
  clear xF0 xF1 xF2 xF3 xF4 xF5 xJ0 xJ1 xJ2 xJ3 xJ4 xJ5
  have hb : Below w5.heap.size w5 (w5.alloc (.cells (mc P) 26)) := (Below.refl _ _).alloc (Nat.le_refl _) _
  have HB_6 := Lib.hid (HB_5.out.trans (hb.mono HB_5.out.size))
  have HX_6 := Lib.hid (HX_5.out.on hb)
  have F_6 := Lib.hid (F_5.out.on hb)
  have J_6 := Lib.hid (J_5.out.on hb)
  have G_6 := Lib.hid (show Blk (w5.alloc (.cells (mc P) 26)) w5.heap.size 26 (mc P) from Blk.new _ _ _)
  clear hb HB_5 HX_5 F_5 J_5
  obtain ⟨xG0, xG1, xG2, xG3, xG4, xG5⟩ := G_6.out.six
  obtain ⟨xF0, xF1, xF2, xF3, xF4, xF5⟩ := F_6.out.six
  obtain ⟨xJ0, xJ1, xJ2, xJ3, xJ4, xJ5⟩ := J_6.out.six
  go_wp2_with fail
  refine (HP2.out _).mono ?_
  rintro e w7 ⟨rfl, hb⟩
  have HB_7 := Lib.hid (HB_6.out.trans (hb.mono HB_6.out.size))
  have HX_7 := Lib.hid (HX_6.out.on hb)
  have F_7 := Lib.hid (F_6.out.on hb)
  have J_7 := Lib.hid (J_6.out.on hb)
  have G_7 := Lib.hid (G_6.out.on hb)
  clear hb HB_6 HX_6 F_6 J_6 G_6
  clear HP2
  clear xF0 xF1 xF2 xF3 xF4 xF5 xJ0 xJ1 xJ2 xJ3 xJ4 xJ5 xG0 xG1 xG2 xG3 xG4 xG5
  have hb : Below w7.heap.size w7 (w7.alloc (.cells (mc P) 26)) := (Below.refl _ _).alloc (Nat.le_refl _) _
  have HB_8 := Lib.hid (HB_7.out.trans (hb.mono HB_7.out.size))
  have HX_8 := Lib.hid (HX_7.out.on hb)
  have F_8 := Lib.hid (F_7.out.on hb)
  have J_8 := Lib.hid (J_7.out.on hb)
  have G_8 := Lib.hid (G_7.out.on hb)
  have K_8 := Lib.hid (show Blk (w7.alloc (.cells (mc P) 26)) w7.heap.size 26 (mc P) from Blk.new _ _ _)
  clear hb HB_7 HX_7 F_7 J_7 G_7
  obtain ⟨xK0, xK1, xK2, xK3, xK4, xK5⟩ := K_8.out.six
  clear xK0 xK1 xK2 xK3 xK4 xK5
  obtain ⟨wz, hwz⟩ : ∃ wz, wz = (w7.alloc (.cells (mc P) 26)) := ⟨_, rfl⟩
  go_upto_region 6 with fail
  rw [← hwz]
  rw [← hwz] at F_8
  rw [← hwz] at J_8
  rw [← hwz] at G_8
  rw [← hwz] at K_8
  rw [← hwz] at HB_8 HX_8
  clear hwz
  refine wp_region_same [] rfl (by kernel_rfl) (by kernel_rfl) (by kernel_rfl) (fun w' => Below wz.heap.size wz w') _
    [I cp, I cp, .bool false, .bool false, .agg (mc P), .agg (mc P), .bool false, .bool false, .bool false, .agg (mc f), .bool mf, .agg (mc f), .bool mf, .bool false, .bool false]
    (by simp only [putAll, List.setIfInBounds_toArray, List.set_cons_succ, List.set_cons_zero]; rfl) (Below.refl _ _).drew ?hop ?hQ
  case hop =>
    refine FixBL.toL (fun w' w'' hS hb => hS.trans (hb.mono hS.size)) _ _ ?_
    refine ⟨.inr ?_, .inr ?_, .inr ?_, .inr ?_, .inr ?_, .inr ?_, .inr ?_, .inr ?_, .inr ?_, .inr ?_, .inr ?_, .inr ?_, .inr ?_, .inr ?_, .inr ?_, trivial⟩
    · (with_reducible refine FixB.of ?_ ?_; rfl; intro w' hS; have bF := F_8.out.below hS F_8.out.lt; obtain ⟨yF0, yF1, yF2, yF3, yF4, yF5⟩ := bF.six; clear bF; have bG := G_8.out.below hS G_8.out.lt; obtain ⟨yG0, yG1, yG2, yG3, yG4, yG5⟩ := bG.six; clear bG; have bK := K_8.out.below hS K_8.out.lt; obtain ⟨yK0, yK1, yK2, yK3, yK4, yK5⟩ := bK.six; clear bK; clear hS; unfold Oper.wp; go_simp; first | done | exact Below.refl _ _)
    · (with_reducible refine FixB.of ?_ ?_; rfl; intro w' hS; have bF := F_8.out.below hS F_8.out.lt; obtain ⟨yF0, yF1, yF2, yF3, yF4, yF5⟩ := bF.six; clear bF; have bG := G_8.out.below hS G_8.out.lt; obtain ⟨yG0, yG1, yG2, yG3, yG4, yG5⟩ := bG.six; clear bG; have bK := K_8.out.below hS K_8.out.lt; obtain ⟨yK0, yK1, yK2, yK3, yK4, yK5⟩ := bK.six; clear bK; clear hS; unfold Oper.wp; go_simp; first | done | exact Below.refl _ _)
    · (with_reducible refine FixB.of ?_ ?_; rfl; intro w' hS; have bF := F_8.out.below hS F_8.out.lt; obtain ⟨yF0, yF1, yF2, yF3, yF4, yF5⟩ := bF.six; clear bF; have bG := G_8.out.below hS G_8.out.lt; obtain ⟨yG0, yG1, yG2, yG3, yG4, yG5⟩ := bG.six; clear bG; have bK := K_8.out.below hS K_8.out.lt; obtain ⟨yK0, yK1, yK2, yK3, yK4, yK5⟩ := bK.six; clear bK; clear hS; unfold Oper.wp; go_simp; first | done | exact Below.refl _ _)
    · (with_reducible refine FixB.of ?_ ?_; rfl; intro w' hS; have bF := F_8.out.below hS F_8.out.lt; obtain ⟨yF0, yF1, yF2, yF3, yF4, yF5⟩ := bF.six; clear bF; have bG := G_8.out.below hS G_8.out.lt; obtain ⟨yG0, yG1, yG2, yG3, yG4, yG5⟩ := bG.six; clear bG; have bK := K_8.out.below hS K_8.out.lt; obtain ⟨yK0, yK1, yK2, yK3, yK4, yK5⟩ := bK.six; clear bK; clear hS; unfold Oper.wp; go_simp; first | done | exact Below.refl _ _)
    · (refine FixB.on (by first | rfl | kernel_rfl | (simp [Region.wanted, yielded]; done)) ?_; intro w' hS; have bF := F_8.out.below hS F_8.out.lt; obtain ⟨yF0, yF1, yF2, yF3, yF4, yF5⟩ := bF.six; clear bF; have bG := G_8.out.below hS G_8.out.lt; obtain ⟨yG0, yG1, yG2, yG3, yG4, yG5⟩ := bG.six; clear bG; have bK := K_8.out.below hS K_8.out.lt; obtain ⟨yK0, yK1, yK2, yK3, yK4, yK5⟩ := bK.six; clear bK; clear hS; unfold Oper.wp; go_simp; first | done | exact Below.refl _ _)
    · (refine FixB.on (by first | rfl | kernel_rfl | (simp [Region.wanted, yielded]; done)) ?_; intro w' hS; have bF := F_8.out.below hS F_8.out.lt; obtain ⟨yF0, yF1, yF2, yF3, yF4, yF5⟩ := bF.six; clear bF; have bG := G_8.out.below hS G_8.out.lt; obtain ⟨yG0, yG1, yG2, yG3, yG4, yG5⟩ := bG.six; clear bG; have bK := K_8.out.below hS K_8.out.lt; obtain ⟨yK0, yK1, yK2, yK3, yK4, yK5⟩ := bK.six; clear bK; clear hS; unfold Oper.wp; go_simp; first | done | exact Below.refl _ _)
    · (refine FixB.on (by first | rfl | kernel_rfl | (simp [Region.wanted, yielded]; done)) ?_; intro w' hS; have bF := F_8.out.below hS F_8.out.lt; obtain ⟨yF0, yF1, yF2, yF3, yF4, yF5⟩ := bF.six; clear bF; have bG := G_8.out.below hS G_8.out.lt; obtain ⟨yG0, yG1, yG2, yG3, yG4, yG5⟩ := bG.six; clear bG; have bK := K_8.out.below hS K_8.out.lt; obtain ⟨yK0, yK1, yK2, yK3, yK4, yK5⟩ := bK.six; clear bK; clear hS; unfold Oper.wp; go_simp; first | done | exact Below.refl _ _)
    · (with_reducible refine FixB.of ?_ ?_; rfl; intro w' hS; have bF := F_8.out.below hS F_8.out.lt; obtain ⟨yF0, yF1, yF2, yF3, yF4, yF5⟩ := bF.six; clear bF; have bG := G_8.out.below hS G_8.out.lt; obtain ⟨yG0, yG1, yG2, yG3, yG4, yG5⟩ := bG.six; clear bG; have bK := K_8.out.below hS K_8.out.lt; obtain ⟨yK0, yK1, yK2, yK3, yK4, yK5⟩ := bK.six; clear bK; clear hS; unfold Oper.wp; go_simp; first | done | exact Below.refl _ _)
    · (with_reducible refine FixB.of ?_ ?_; rfl; intro w' hS; have bF := F_8.out.below hS F_8.out.lt; obtain ⟨yF0, yF1, yF2, yF3, yF4, yF5⟩ := bF.six; clear bF; have bG := G_8.out.below hS G_8.out.lt; obtain ⟨yG0, yG1, yG2, yG3, yG4, yG5⟩ := bG.six; clear bG; have bK := K_8.out.below hS K_8.out.lt; obtain ⟨yK0, yK1, yK2, yK3, yK4, yK5⟩ := bK.six; clear bK; clear hS; unfold Oper.wp; go_simp; first | done | exact Below.refl _ _)
    · (refine FixB.on (by first | rfl | kernel_rfl | (simp [Region.wanted, yielded]; done)) ?_; intro w' hS; have bF := F_8.out.below hS F_8.out.lt; obtain ⟨yF0, yF1, yF2, yF3, yF4, yF5⟩ := bF.six; clear bF; have bG := G_8.out.below hS G_8.out.lt; obtain ⟨yG0, yG1, yG2, yG3, yG4, yG5⟩ := bG.six; clear bG; have bK := K_8.out.below hS K_8.out.lt; obtain ⟨yK0, yK1, yK2, yK3, yK4, yK5⟩ := bK.six; clear bK; clear hS; unfold Oper.wp; go_simp; first | done | exact Below.refl _ _)
    · (refine FixB.on (by first | rfl | kernel_rfl | (simp [Region.wanted, yielded]; done)) ?_; intro w' hS; have s3 := Lib.hid hS; unfold Oper.wp; clear hS; go_simp; refine (HM1.out _).mono ?_; rintro e w1 ⟨rfl, hb⟩; exact ⟨rfl, hb⟩)
    · (refine FixB.on (by first | rfl | kernel_rfl | (simp [Region.wanted, yielded]; done)) ?_; intro w' hS; have bF := F_8.out.below hS F_8.out.lt; obtain ⟨yF0, yF1, yF2, yF3, yF4, yF5⟩ := bF.six; clear bF; have bG := G_8.out.below hS G_8.out.lt; obtain ⟨yG0, yG1, yG2, yG3, yG4, yG5⟩ := bG.six; clear bG; have bK := K_8.out.below hS K_8.out.lt; obtain ⟨yK0, yK1, yK2, yK3, yK4, yK5⟩ := bK.six; clear bK; clear hS; unfold Oper.wp; go_simp; first | done | exact Below.refl _ _)
    · (refine FixB.on (by first | rfl | kernel_rfl | (simp [Region.wanted, yielded]; done)) ?_; intro w' hS; have s3 := Lib.hid hS; unfold Oper.wp; clear hS; go_simp; refine (HM2.out _).mono ?_; rintro e w1 ⟨rfl, hb⟩; exact ⟨rfl, hb⟩)
    · (refine FixB.on (by first | rfl | kernel_rfl | (simp [Region.wanted, yielded]; done)) ?_; intro w' hS; have bF := F_8.out.below hS F_8.out.lt; obtain ⟨yF0, yF1, yF2, yF3, yF4, yF5⟩ := bF.six; clear bF; have bG := G_8.out.below hS G_8.out.lt; obtain ⟨yG0, yG1, yG2, yG3, yG4, yG5⟩ := bG.six; clear bG; have bK := K_8.out.below hS K_8.out.lt; obtain ⟨yK0, yK1, yK2, yK3, yK4, yK5⟩ := bK.six; clear bK; clear hS; unfold Oper.wp; go_simp; first | done | exact Below.refl _ _)
    · (with_reducible refine FixB.of ?_ ?_; rfl; intro w' hS; have bF := F_8.out.below hS F_8.out.lt; obtain ⟨yF0, yF1, yF2, yF3, yF4, yF5⟩ := bF.six; clear bF; have bG := G_8.out.below hS G_8.out.lt; obtain ⟨yG0, yG1, yG2, yG3, yG4, yG5⟩ := bG.six; clear bG; have bK := K_8.out.below hS K_8.out.lt; obtain ⟨yK0, yK1, yK2, yK3, yK4, yK5⟩ := bK.six; clear bK; clear hS; unfold Oper.wp; go_simp; first | done | exact Below.refl _ _)
  case hQ =>
  intro wc hS _
  have Hq1 := Lib.hid hS
  clear hS
  have hb := Hq1.out
  clear Hq1 HM1 HM2
  have HB_9 := Lib.hid (HB_8.out.trans (hb.mono HB_8.out.size))
  have HX_9 := Lib.hid (HX_8.out.on hb)
  have F_9 := Lib.hid (F_8.out.on hb)
  have J_9 := Lib.hid (J_8.out.on hb)
  have G_9 := Lib.hid (G_8.out.on hb)
  clear hb HB_8 HX_8 F_8 J_8 G_8 K_8
  obtain ⟨wd, hwd⟩ : ∃ wd, wd = wc := ⟨_, rfl⟩
  rw [← hwd]
  rw [← hwd] at HB_9
  rw [← hwd] at HX_9
  rw [← hwd] at F_9
  rw [← hwd] at J_9
  rw [← hwd] at G_9
  clear hwd
  go_upto_if 104 with fail
  go_cut [104] from 408 (fun _ wx => Below w.heap.size w wx ∧ RdU wx wx.heap.size A zs)
  case first =>
    by_cases h0 : cp = 0
    · have g0 : (cp == 0) = true := by simpa using h0
      obtain ⟨c1, c2, c3, ea, m1, m2, m3, r1, r2, t1, t2, t3, i1, i2, i3⟩ := prod_law (Hhc.out.trans h0)
      rw [HhP.out] at c1 ea m3 r1 r2 t1 t2 t3 i1 i2 i3
      obtain ⟨J, hJ⟩ : ∃ J, mulR g f = J := ⟨_, rfl⟩
      obtain ⟨L, hL⟩ : ∃ L, mulR P f = L := ⟨_, rfl⟩
      obtain ⟨rf, hrf⟩ : ∃ rf, rkR f = rf := ⟨_, rfl⟩
      obtain ⟨rg, hrg⟩ : ∃ rg, rkR g = rg := ⟨_, rfl⟩
      obtain ⟨rh, hrh⟩ : ∃ rh, rkR P = rh := ⟨_, rfl⟩
      obtain ⟨tx, htx⟩ : ∃ tx, txtR P = tx := ⟨_, rfl⟩
      obtain ⟨nI, hnI⟩ : ∃ nI, (imgsR P).length = nI := ⟨_, rfl⟩
      rw [hJ] at c3 ea
      rw [hL] at ea
      rw [hrf, hrh] at r1
      rw [hrg, hrh] at r2
      rw [htx] at t1 t2 t3
      rw [hnI] at i3
      have z1 : ¬ (rf < rh) := by omega
      have z2 : ¬ (rg < rh) := by omega
      have HQ1 : Hid (∀ wx, Calls Tryz.prog 6 #[.agg (mc P), .agg (mc f)] wx fun e w' => e = .returned (.tuple #[.agg (mc L), I 0]) ∧ Below wx.heap.size wx w') := fun wx => by have h := ImplProduct_any P f wx; rw [c1, hL] at h; exact h
      have HQ2 : Hid (∀ wx, Calls Tryz.prog 6 #[.agg (mc g), .agg (mc f)] wx fun e w' => e = .returned (.tuple #[.agg (mc J), I 0]) ∧ Below wx.heap.size wx w') := fun wx => by have h := ImplProduct_any g f wx; rw [c2, hJ] at h; exact h
      have HQ3 : Hid (∀ wx, Calls Tryz.prog 6 #[.agg (mc f), .agg (mc J)] wx fun e w' => e = .returned (.tuple #[.agg (mc L), I 0]) ∧ Below wx.heap.size wx w') := fun wx => by have h := ImplProduct_any f J wx; rw [c3, ea] at h; exact h
      have HQ4 : Hid (∀ wx, Calls Tryz.prog 10 #[.agg (mc f)] wx fun e w' => e = .returned (.tuple #[I rf, I 0]) ∧ Below wx.heap.size wx w') := fun wx => by have h := ImplRank_any f wx; rw [m1, hrf] at h; exact h
      have HQ5 : Hid (∀ wx, Calls Tryz.prog 10 #[.agg (mc g)] wx fun e w' => e = .returned (.tuple #[I rg, I 0]) ∧ Below wx.heap.size wx w') := fun wx => by have h := ImplRank_any g wx; rw [m2, hrg] at h; exact h
      have HQ6 : Hid (∀ wx, Calls Tryz.prog 10 #[.agg (mc P)] wx fun e w' => e = .returned (.tuple #[I rh, I 0]) ∧ Below wx.heap.size wx w') := fun wx => by have h := ImplRank_any P wx; rw [m3, hrh] at h; exact h
      have HQ7 : Hid (∀ wx, Calls Tryz.prog 11 #[.agg (mc P)] wx fun e w' => e = .returned (.tuple #[.string tx, I 0]) ∧ Below wx.heap.size wx w') := fun wx => by have h := ImplMapText_any P wx; rw [m3, htx] at h; exact h
      have HQ8 : Hid (∀ wx, Calls Tryz.prog 12 #[.string tx] wx fun e w' => e = .returned (.tuple #[.agg (mc P), I 0]) ∧ Below wx.heap.size wx w') := fun wx => by have h := ImplParseMap_any tx wx (Nat.lt_of_le_of_lt t3 (by decide)); rw [t1, t2] at h; exact h
      have HQ9 : Hid (∀ wx, Calls Tryz.prog 13 #[.agg (mc P)] wx fun e w' => ∃ A c, e = .returned (.tuple #[.slice A nI c, I 0]) ∧ RdI w' w'.heap.size A (imgsR P) ∧ Below wx.heap.size wx w') := fun wx => by have h := ImplImages_any P wx; rw [m3] at h; exact h.mono fun e w' ⟨v, he, ho, hb⟩ => (by obtain ⟨A, c, rfl, hr⟩ := ho.len hnI; exact ⟨A, c, he, hr, hb⟩)
      have HQ10 : Hid (∀ wx A' c', RdI wx wx.heap.size A' (imgsR P) → Calls Tryz.prog 14 #[.slice A' nI c'] wx fun e w' => e = .returned (.tuple #[.agg (mc P), I 0]) ∧ Below wx.heap.size wx w') := fun wx A' c' hr => by have h := ImplMapOf_any A' nI c' (imgsR P) wx hr hnI (by omega); rw [i1, i2] at h; exact h
      clear h0 c1 c2 c3 ea m1 m2 m3 r1 r2 t1 t2 t3 i1 i2 i3 hJ hL hrf hrg hrh htx hnI
      have heqL := eqMap_run L L
      rw [decide_eq_true rfl] at heqL
      obtain ⟨xG0, xG1, xG2, xG3, xG4, xG5⟩ := G_9.out.six
      obtain ⟨xF0, xF1, xF2, xF3, xF4, xF5⟩ := F_9.out.six
      go_wp2_with fail
      refine (HQ1.out _).mono ?_
      rintro e w10 ⟨rfl, hb⟩
      have HB_10 := Lib.hid (HB_9.out.trans (hb.mono HB_9.out.size))
      have HX_10 := Lib.hid (HX_9.out.on hb)
      have F_10 := Lib.hid (F_9.out.on hb)
      have J_10 := Lib.hid (J_9.out.on hb)
      have G_10 := Lib.hid (G_9.out.on hb)
      clear hb HB_9 HX_9 F_9 J_9 G_9
      clear HQ1
      clear xG0 xG1 xG2 xG3 xG4 xG5 xF0 xF1 xF2 xF3 xF4 xF5
      have hb : Below w10.heap.size w10 (w10.alloc (.cells (mc L) 26)) := (Below.refl _ _).alloc (Nat.le_refl _) _
      have HB_11 := Lib.hid (HB_10.out.trans (hb.mono HB_10.out.size))
      have HX_11 := Lib.hid (HX_10.out.on hb)
      have F_11 := Lib.hid (F_10.out.on hb)
      have J_11 := Lib.hid (J_10.out.on hb)
      have G_11 := Lib.hid (G_10.out.on hb)
      have N_11 := Lib.hid (show Blk (w10.alloc (.cells (mc L) 26)) w10.heap.size 26 (mc L) from Blk.new _ _ _)
      clear hb HB_10 HX_10 F_10 J_10 G_10
      obtain ⟨xN0, xN1, xN2, xN3, xN4, xN5⟩ := N_11.out.six
      obtain ⟨xJ0, xJ1, xJ2, xJ3, xJ4, xJ5⟩ := J_11.out.six
      obtain ⟨xF0, xF1, xF2, xF3, xF4, xF5⟩ := F_11.out.six
      go_wp2_with fail
      refine (HQ2.out _).mono ?_
      rintro e w12 ⟨rfl, hb⟩
      have HB_12 := Lib.hid (HB_11.out.trans (hb.mono HB_11.out.size))
      have HX_12 := Lib.hid (HX_11.out.on hb)
      have F_12 := Lib.hid (F_11.out.on hb)
      have J_12 := Lib.hid (J_11.out.on hb)
      have G_12 := Lib.hid (G_11.out.on hb)
      have N_12 := Lib.hid (N_11.out.on hb)
      clear hb HB_11 HX_11 F_11 J_11 G_11 N_11
      clear HQ2
      clear xN0 xN1 xN2 xN3 xN4 xN5 xJ0 xJ1 xJ2 xJ3 xJ4 xJ5 xF0 xF1 xF2 xF3 xF4 xF5
      have hb : Below w12.heap.size w12 (w12.alloc (.cells (mc J) 26)) := (Below.refl _ _).alloc (Nat.le_refl _) _
      have HB_13 := Lib.hid (HB_12.out.trans (hb.mono HB_12.out.size))
      have HX_13 := Lib.hid (HX_12.out.on hb)
      have F_13 := Lib.hid (F_12.out.on hb)
      have J_13 := Lib.hid (J_12.out.on hb)
      have G_13 := Lib.hid (G_12.out.on hb)
      have N_13 := Lib.hid (N_12.out.on hb)
      have Q_13 := Lib.hid (show Blk (w12.alloc (.cells (mc J) 26)) w12.heap.size 26 (mc J) from Blk.new _ _ _)
      clear hb HB_12 HX_12 F_12 J_12 G_12 N_12
      obtain ⟨xQ0, xQ1, xQ2, xQ3, xQ4, xQ5⟩ := Q_13.out.six
      obtain ⟨xF0, xF1, xF2, xF3, xF4, xF5⟩ := F_13.out.six
      go_wp2_with fail
      refine (HQ3.out _).mono ?_
      rintro e w14 ⟨rfl, hb⟩
      have HB_14 := Lib.hid (HB_13.out.trans (hb.mono HB_13.out.size))
      have HX_14 := Lib.hid (HX_13.out.on hb)
      have F_14 := Lib.hid (F_13.out.on hb)
      have J_14 := Lib.hid (J_13.out.on hb)
      have G_14 := Lib.hid (G_13.out.on hb)
      have N_14 := Lib.hid (N_13.out.on hb)
      clear hb HB_13 HX_13 F_13 J_13 G_13 N_13 Q_13
      clear HQ3
      clear xQ0 xQ1 xQ2 xQ3 xQ4 xQ5 xF0 xF1 xF2 xF3 xF4 xF5
      have hb : Below w14.heap.size w14 (w14.alloc (.cells (mc L) 26)) := (Below.refl _ _).alloc (Nat.le_refl _) _
      have HB_15 := Lib.hid (HB_14.out.trans (hb.mono HB_14.out.size))
      have HX_15 := Lib.hid (HX_14.out.on hb)
      have F_15 := Lib.hid (F_14.out.on hb)
      have J_15 := Lib.hid (J_14.out.on hb)
      have G_15 := Lib.hid (G_14.out.on hb)
      have N_15 := Lib.hid (N_14.out.on hb)
      have R_15 := Lib.hid (show Blk (w14.alloc (.cells (mc L) 26)) w14.heap.size 26 (mc L) from Blk.new _ _ _)
      clear hb HB_14 HX_14 F_14 J_14 G_14 N_14
      obtain ⟨xR0, xR1, xR2, xR3, xR4, xR5⟩ := R_15.out.six
      obtain ⟨xF0, xF1, xF2, xF3, xF4, xF5⟩ := F_15.out.six
      go_wp2_with fail
      refine (HQ4.out _).mono ?_
      rintro e w16 ⟨rfl, hb⟩
      have HB_16 := Lib.hid (HB_15.out.trans (hb.mono HB_15.out.size))
      have HX_16 := Lib.hid (HX_15.out.on hb)
      have J_16 := Lib.hid (J_15.out.on hb)
      have G_16 := Lib.hid (G_15.out.on hb)
      have N_16 := Lib.hid (N_15.out.on hb)
      have R_16 := Lib.hid (R_15.out.on hb)
      clear hb HB_15 HX_15 F_15 J_15 G_15 N_15 R_15
      clear HQ4
      clear xR0 xR1 xR2 xR3 xR4 xR5 xF0 xF1 xF2 xF3 xF4 xF5
      obtain ⟨xJ0, xJ1, xJ2, xJ3, xJ4, xJ5⟩ := J_16.out.six
      go_wp2_with fail
      refine (HQ5.out _).mono ?_
      rintro e w17 ⟨rfl, hb⟩
      have HB_17 := Lib.hid (HB_16.out.trans (hb.mono HB_16.out.size))
      have HX_17 := Lib.hid (HX_16.out.on hb)
      have G_17 := Lib.hid (G_16.out.on hb)
      have N_17 := Lib.hid (N_16.out.on hb)
      have R_17 := Lib.hid (R_16.out.on hb)
      clear hb HB_16 HX_16 J_16 G_16 N_16 R_16
      clear HQ5
      clear xJ0 xJ1 xJ2 xJ3 xJ4 xJ5
      obtain ⟨xG0, xG1, xG2, xG3, xG4, xG5⟩ := G_17.out.six
      go_wp2_with fail
      refine (HQ6.out _).mono ?_
      rintro e w18 ⟨rfl, hb⟩
      have HB_18 := Lib.hid (HB_17.out.trans (hb.mono HB_17.out.size))
      have HX_18 := Lib.hid (HX_17.out.on hb)
      have G_18 := Lib.hid (G_17.out.on hb)
      have N_18 := Lib.hid (N_17.out.on hb)
      have R_18 := Lib.hid (R_17.out.on hb)
      clear hb HB_17 HX_17 G_17 N_17 R_17
      clear HQ6
      clear xG0 xG1 xG2 xG3 xG4 xG5
      obtain ⟨xG0, xG1, xG2, xG3, xG4, xG5⟩ := G_18.out.six
      go_wp2_with fail
      refine (HQ7.out _).mono ?_
      rintro e w19 ⟨rfl, hb⟩
      have HB_19 := Lib.hid (HB_18.out.trans (hb.mono HB_18.out.size))
      have HX_19 := Lib.hid (HX_18.out.on hb)
      have G_19 := Lib.hid (G_18.out.on hb)
      have N_19 := Lib.hid (N_18.out.on hb)
      have R_19 := Lib.hid (R_18.out.on hb)
      clear hb HB_18 HX_18 G_18 N_18 R_18
      clear HQ7
      clear xG0 xG1 xG2 xG3 xG4 xG5
      go_wp2_with fail
      refine (HQ8.out _).mono ?_
      rintro e w20 ⟨rfl, hb⟩
      have HB_20 := Lib.hid (HB_19.out.trans (hb.mono HB_19.out.size))
      have HX_20 := Lib.hid (HX_19.out.on hb)
      have G_20 := Lib.hid (G_19.out.on hb)
      have N_20 := Lib.hid (N_19.out.on hb)
      have R_20 := Lib.hid (R_19.out.on hb)
      clear hb HB_19 HX_19 G_19 N_19 R_19
      clear HQ8
      have hb : Below w20.heap.size w20 (w20.alloc (.cells (mc P) 26)) := (Below.refl _ _).alloc (Nat.le_refl _) _
      have HB_21 := Lib.hid (HB_20.out.trans (hb.mono HB_20.out.size))
      have HX_21 := Lib.hid (HX_20.out.on hb)
      have G_21 := Lib.hid (G_20.out.on hb)
      have N_21 := Lib.hid (N_20.out.on hb)
      have R_21 := Lib.hid (R_20.out.on hb)
      have S_21 := Lib.hid (show Blk (w20.alloc (.cells (mc P) 26)) w20.heap.size 26 (mc P) from Blk.new _ _ _)
      clear hb HB_20 HX_20 G_20 N_20 R_20
      obtain ⟨xS0, xS1, xS2, xS3, xS4, xS5⟩ := S_21.out.six
      obtain ⟨xG0, xG1, xG2, xG3, xG4, xG5⟩ := G_21.out.six
      go_wp2_with fail
      refine (HQ9.out _).mono ?_
      rintro e w22 ⟨A3, c3, rfl, hr, hb⟩
      have HB_22 := Lib.hid (HB_21.out.trans (hb.mono HB_21.out.size))
      have HX_22 := Lib.hid (HX_21.out.on hb)
      have G_22 := Lib.hid (G_21.out.on hb)
      have N_22 := Lib.hid (N_21.out.on hb)
      have R_22 := Lib.hid (R_21.out.on hb)
      have S_22 := Lib.hid (S_21.out.on hb)
      have Hi_22 := Lib.hid (hr)
      clear hb HB_21 HX_21 G_21 N_21 R_21 S_21
      clear hr HQ9
      clear xS0 xS1 xS2 xS3 xS4 xS5 xG0 xG1 xG2 xG3 xG4 xG5
      go_wp2_with fail
      refine (HQ10.out _ A3 c3 Hi_22.out).mono ?_
      rintro e w23 ⟨rfl, hb⟩
      have HB_23 := Lib.hid (HB_22.out.trans (hb.mono HB_22.out.size))
      have HX_23 := Lib.hid (HX_22.out.on hb)
      have G_23 := Lib.hid (G_22.out.on hb)
      have N_23 := Lib.hid (N_22.out.on hb)
      have R_23 := Lib.hid (R_22.out.on hb)
      have S_23 := Lib.hid (S_22.out.on hb)
      clear hb HB_22 HX_22 G_22 N_22 R_22 S_22 Hi_22
      clear HQ10
      have hb : Below w23.heap.size w23 (w23.alloc (.cells (mc P) 26)) := (Below.refl _ _).alloc (Nat.le_refl _) _
      have HB_24 := Lib.hid (HB_23.out.trans (hb.mono HB_23.out.size))
      have HX_24 := Lib.hid (HX_23.out.on hb)
      have G_24 := Lib.hid (G_23.out.on hb)
      have N_24 := Lib.hid (N_23.out.on hb)
      have R_24 := Lib.hid (R_23.out.on hb)
      have S_24 := Lib.hid (S_23.out.on hb)
      have T_24 := Lib.hid (show Blk (w23.alloc (.cells (mc P) 26)) w23.heap.size 26 (mc P) from Blk.new _ _ _)
      clear hb HB_23 HX_23 G_23 N_23 R_23 S_23
      obtain ⟨xT0, xT1, xT2, xT3, xT4, xT5⟩ := T_24.out.six
      obtain ⟨xG0, xG1, xG2, xG3, xG4, xG5⟩ := G_24.out.six
      obtain ⟨xN0, xN1, xN2, xN3, xN4, xN5⟩ := N_24.out.six
      obtain ⟨xR0, xR1, xR2, xR3, xR4, xR5⟩ := R_24.out.six
      obtain ⟨xS0, xS1, xS2, xS3, xS4, xS5⟩ := S_24.out.six
      go_wp2_with fail
      go_meet
      exact ⟨HB_24.out, HX_24.out⟩
    · have g0 : (cp == 0) = false := by simpa using h0
      clear h0
      go_wp2_with fail
      go_meet
      exact ⟨HB_9.out, HX_9.out⟩
  case rest =>
    clear HB_9 HX_9 F_9 J_9 G_9 HhP Hhc ecp emf heq
    obtain ⟨hB, hX⟩ := hcut
    have HB_c1 := Lib.hid hB
    have HX_c1 := Lib.hid hX
    clear hB hX
    go_wp2_with fail
    refine (DrawImageOf_any (A := A) (n := n) (c := c) wc HX_c1.out Hn.out hbd).mono ?_
    rintro e w10 ⟨k, A4, q4, c4, L4, rfl, hL4, ho, hq4, hb⟩
    have HB_10 := Lib.hid (HB_c1.out.trans (hb.mono HB_c1.out.size))
    have HX_10 := Lib.hid (HX_c1.out.on hb)
    have HS_10 := Lib.hid (ho.readP)
    clear hb HB_c1 HX_c1
    have HL4 := Lib.hid hL4
    clear hL4 ho
    obtain ⟨ck, hck⟩ : ∃ ck, codeSet k L4 = ck := ⟨_, rfl⟩
    obtain ⟨ni, hni⟩ : ∃ ni, (imgSR k L4).length = ni := ⟨_, rfl⟩
    have eck : (ck != ck) = false := by simp
    have hnl : ni < 1073741824 := by rw [← hni]; exact imgSR_len k L4
    have HI1 : Hid (∀ wx, RdI wx wx.heap.size A4 L4 → Calls Tryz.prog 16 #[.agg (mc k), .slice A4 q4 c4] wx fun e w' => ∃ A c, e = .returned (.tuple #[.slice A ni c, I ck]) ∧ RdI w' w'.heap.size A (imgSR k L4) ∧ Below wx.heap.size wx w') := fun wx hr => by have h := ImplImg_any k A4 q4 c4 L4 wx hr HL4.out (by omega); rw [hck] at h; exact h.mono fun e w' ⟨v, he, ho, hb⟩ => (by obtain ⟨A, c, rfl, hr⟩ := ho.len hni; exact ⟨A, c, he, hr, hb⟩)
    have HI2 : Hid (∀ wx, RdI wx wx.heap.size A4 L4 → Calls Tryz.prog 17 #[.agg (mc k), .slice A4 q4 c4] wx fun e w' => ∃ A c, e = .returned (.tuple #[.slice A ni c, I ck]) ∧ RdI w' w'.heap.size A (imgSR k L4) ∧ Below wx.heap.size wx w') := fun wx hr => by have h := SpecImg_any k A4 q4 c4 L4 wx hr HL4.out (by omega); rw [hck] at h; exact h.mono fun e w' ⟨v, he, ho, hb⟩ => (by obtain ⟨A, c, rfl, hr⟩ := ho.len hni; exact ⟨A, c, he, hr, hb⟩)
    have Hck := Lib.hid hck
    have Hni := Lib.hid hni
    clear hck hni
    have hb : Below w10.heap.size w10 (w10.alloc (.cells (mc k) 26)) := (Below.refl _ _).alloc (Nat.le_refl _) _
    have HB_11 := Lib.hid (HB_10.out.trans (hb.mono HB_10.out.size))
    have HX_11 := Lib.hid (HX_10.out.on hb)
    have HS_11 := Lib.hid (HS_10.out.on hb)
    have F_11 := Lib.hid (show Blk (w10.alloc (.cells (mc k) 26)) w10.heap.size 26 (mc k) from Blk.new _ _ _)
    clear hb HB_10 HX_10 HS_10
    obtain ⟨xF0, xF1, xF2, xF3, xF4, xF5⟩ := F_11.out.six
    go_wp2_with fail
    refine (HI1.out _ HS_11.out).mono ?_
    rintro e w12 ⟨A5, c5, rfl, hr, hb⟩
    have HB_12 := Lib.hid (HB_11.out.trans (hb.mono HB_11.out.size))
    have HX_12 := Lib.hid (HX_11.out.on hb)
    have HS_12 := Lib.hid (HS_11.out.on hb)
    have F_12 := Lib.hid (F_11.out.on hb)
    have Ha_12 := Lib.hid (hr)
    clear hb HB_11 HX_11 HS_11 F_11
    clear hr HI1
    clear xF0 xF1 xF2 xF3 xF4 xF5
    obtain ⟨xF0, xF1, xF2, xF3, xF4, xF5⟩ := F_12.out.six
    go_wp2_with fail
    refine (HI2.out _ HS_12.out).mono ?_
    rintro e w13 ⟨A6, c6, rfl, hr, hb⟩
    have HB_13 := Lib.hid (HB_12.out.trans (hb.mono HB_12.out.size))
    have HX_13 := Lib.hid (HX_12.out.on hb)
    have HS_13 := Lib.hid (HS_12.out.on hb)
    have F_13 := Lib.hid (F_12.out.on hb)
    have Ha_13 := Lib.hid (Ha_12.out.on hb)
    have Hb_13 := Lib.hid (hr)
    clear hb HB_12 HX_12 HS_12 F_12 Ha_12
    clear hr HI2
    clear xF0 xF1 xF2 xF3 xF4 xF5
    go_wp2_with fail
    refine (likeInts_same A5 A6 ni c5 c6 (imgSR k L4) _ Hni.out Ha_13.out Hb_13.out hnl).mono ?_
    rintro e w14 ⟨rfl, hb⟩
    have HB_14 := Lib.hid (HB_13.out.trans (hb.mono HB_13.out.size))
    have HX_14 := Lib.hid (HX_13.out.on hb)
    have HS_14 := Lib.hid (HS_13.out.on hb)
    have F_14 := Lib.hid (F_13.out.on hb)
    have Ha_14 := Lib.hid (Ha_13.out.on hb)
    clear hb HB_13 HX_13 HS_13 F_13 Ha_13 Hb_13
    go_upto_if 248 with fail
    go_cut [248] from 408 (fun _ wx => Below w.heap.size w wx ∧ RdU wx wx.heap.size A zs)
    case first =>
      by_cases h0 : ck = 0
      · have g0 : (ck == 0) = true := by simpa using h0
        obtain ⟨l1, l2⟩ := img_law (Hck.out.trans h0)
        obtain ⟨nb, hnb⟩ : ∃ nb, (preR k (imgSR k L4)).length = nb := ⟨_, rfl⟩
        have hnb2 : nb < 1073741824 := by rw [← hnb]; exact preR_len k (imgSR k L4)
        have HR1 : Hid (∀ wx, RdI wx wx.heap.size A5 (imgSR k L4) → Calls Tryz.prog 19 #[.agg (mc k), .slice A5 ni c5] wx fun e w' => ∃ A c, e = .returned (.tuple #[.slice A nb c, I 0]) ∧ RdI w' w'.heap.size A (preR k (imgSR k L4)) ∧ Below wx.heap.size wx w') := fun wx hr => by have h := ImplPre_any k A5 ni c5 (imgSR k L4) wx hr Hni.out hnl; rw [l1] at h; exact h.mono fun e w' ⟨v, he, ho, hb⟩ => (by obtain ⟨A, c, rfl, hr⟩ := ho.len hnb; exact ⟨A, c, he, hr, hb⟩)
        have Hl2 := Lib.hid l2
        have Hnb := Lib.hid hnb
        clear h0 l1 l2 hnb
        obtain ⟨xF0, xF1, xF2, xF3, xF4, xF5⟩ := F_14.out.six
        go_wp2_with fail
        refine (HR1.out _ Ha_14.out).mono ?_
        rintro e w15 ⟨A7, c7, rfl, hr, hb⟩
        have HB_15 := Lib.hid (HB_14.out.trans (hb.mono HB_14.out.size))
        have HX_15 := Lib.hid (HX_14.out.on hb)
        have HS_15 := Lib.hid (HS_14.out.on hb)
        have Hc_15 := Lib.hid (hr)
        clear hb HB_14 HX_14 HS_14 F_14 Ha_14
        clear hr HR1
        clear xF0 xF1 xF2 xF3 xF4 xF5
        go_wp2_with fail
        go_loopw [37] (fun t wr => ∃ j : Nat, j ≤ q4 ∧ t = .int .i64 j ∧ Below w15.heap.size w15 wr) (fun t _ => q4 - (intOf t).toNat)
        case atStart => exact ⟨0, by omega, rfl, Below.refl _ _⟩
        case round =>
          obtain ⟨j, hj, rfl, hbj⟩ := hrel
          have Hbj := Lib.hid hbj
          by_cases hlt : j < q4
          · have j0 : (0 : Int) ≤ (j : Int) := by omega
            have j1 : (j : Int) < (q4 : Int) := by omega
            obtain ⟨b4, o4, rfl, _, s4⟩ := RdI.at_ (HS_15.out.on hbj) (k := j) (by rw [HL4.out]; exact hlt)
            obtain ⟨z, hz⟩ : ∃ z, z = gi L4 j := ⟨_, rfl⟩
            rw [← hz] at s4
            have Hm : Hid (z ∈ preR k (imgSR k L4)) := Hl2.out z (by rw [hz, gi_eq (by rw [HL4.out]; exact hlt)]; exact List.getElem_mem _)
            clear hbj hz
            go_wp2_with fail
            refine (hasInt_any A7 nb c7 (preR k (imgSR k L4)) z _ Hnb.out (Hc_15.out.on Hbj.out) hnb2 Hm.out).mono ?_
            rintro e w9 ⟨rfl, hb⟩
            have Hb9 := Lib.hid (Hbj.out.trans (hb.mono Hbj.out.size))
            clear hb s4
            go_wp2_with fail
            go_roundw
            case rel => exact ⟨j + 1, by omega, by go_num, Hb9.out⟩
            case measure => simp [intOf]; omega
          · have j1 : ¬ (j : Int) < (q4 : Int) := by omega
            clear hbj
            go_wp2_with fail
            go_meet
            exact ⟨HB_15.out.trans (Hbj.out.mono HB_15.out.size), RdU.on HX_15.out Hbj.out Hbj.out.size⟩
      · have g0 : (ck == 0) = false := by simpa using h0
        clear h0
        go_wp2_with fail
        go_meet
        exact ⟨HB_14.out, HX_14.out⟩
    case rest =>
      clear HB_14 HX_14 HS_14 F_14 Ha_14 HL4 Hck Hni hnl eck hq4
      obtain ⟨hB, hX⟩ := hcut
      have HB_c2 := Lib.hid hB
      have HX_c2 := Lib.hid hX
      clear hB hX
      go_wp2_with fail
      refine (DrawPreimageOf_any (A := A) (n := n) (c := c) wc HX_c2.out Hn.out hbd).mono ?_
      rintro e w15 ⟨l, A8, q8, c8, L8, rfl, hL8, ho, hq8, hb⟩
      have HB_15 := Lib.hid (HB_c2.out.trans (hb.mono HB_c2.out.size))
      have HX_15 := Lib.hid (HX_c2.out.on hb)
      have HS_15 := Lib.hid (ho.readP)
      clear hb HB_c2 HX_c2
      have HL8 := Lib.hid hL8
      clear hL8 ho
      obtain ⟨cl, hcl⟩ : ∃ cl, codeSet l L8 = cl := ⟨_, rfl⟩
      obtain ⟨np, hnp⟩ : ∃ np, (preR l L8).length = np := ⟨_, rfl⟩
      have ecl : (cl != cl) = false := by simp
      have hnp2 : np < 1073741824 := by rw [← hnp]; exact preR_len l L8
      have HI1 : Hid (∀ wx, RdI wx wx.heap.size A8 L8 → Calls Tryz.prog 19 #[.agg (mc l), .slice A8 q8 c8] wx fun e w' => ∃ A c, e = .returned (.tuple #[.slice A np c, I cl]) ∧ RdI w' w'.heap.size A (preR l L8) ∧ Below wx.heap.size wx w') := fun wx hr => by have h := ImplPre_any l A8 q8 c8 L8 wx hr HL8.out (by omega); rw [hcl] at h; exact h.mono fun e w' ⟨v, he, ho, hb⟩ => (by obtain ⟨A, c, rfl, hr⟩ := ho.len hnp; exact ⟨A, c, he, hr, hb⟩)
      have HI2 : Hid (∀ wx, RdI wx wx.heap.size A8 L8 → Calls Tryz.prog 22 #[.agg (mc l), .slice A8 q8 c8] wx fun e w' => ∃ A c, e = .returned (.tuple #[.slice A np c, I cl]) ∧ RdI w' w'.heap.size A (preR l L8) ∧ Below wx.heap.size wx w') := fun wx hr => by have h := SpecPre_any l A8 q8 c8 L8 wx hr HL8.out (by omega); rw [hcl] at h; exact h.mono fun e w' ⟨v, he, ho, hb⟩ => (by obtain ⟨A, c, rfl, hr⟩ := ho.len hnp; exact ⟨A, c, he, hr, hb⟩)
      have Hnp := Lib.hid hnp
      clear hcl hnp
      have hb : Below w15.heap.size w15 (w15.alloc (.cells (mc l) 26)) := (Below.refl _ _).alloc (Nat.le_refl _) _
      have HB_16 := Lib.hid (HB_15.out.trans (hb.mono HB_15.out.size))
      have HX_16 := Lib.hid (HX_15.out.on hb)
      have HS_16 := Lib.hid (HS_15.out.on hb)
      have F_16 := Lib.hid (show Blk (w15.alloc (.cells (mc l) 26)) w15.heap.size 26 (mc l) from Blk.new _ _ _)
      clear hb HB_15 HX_15 HS_15
      obtain ⟨xF0, xF1, xF2, xF3, xF4, xF5⟩ := F_16.out.six
      go_wp2_with fail
      refine (HI1.out _ HS_16.out).mono ?_
      rintro e w17 ⟨A9, c9, rfl, hr, hb⟩
      have HB_17 := Lib.hid (HB_16.out.trans (hb.mono HB_16.out.size))
      have HX_17 := Lib.hid (HX_16.out.on hb)
      have HS_17 := Lib.hid (HS_16.out.on hb)
      have F_17 := Lib.hid (F_16.out.on hb)
      have Ha_17 := Lib.hid (hr)
      clear hb HB_16 HX_16 HS_16 F_16
      clear hr HI1
      clear xF0 xF1 xF2 xF3 xF4 xF5
      obtain ⟨xF0, xF1, xF2, xF3, xF4, xF5⟩ := F_17.out.six
      go_wp2_with fail
      refine (HI2.out _ HS_17.out).mono ?_
      rintro e w18 ⟨A10, c10, rfl, hr, hb⟩
      have HB_18 := Lib.hid (HB_17.out.trans (hb.mono HB_17.out.size))
      have HX_18 := Lib.hid (HX_17.out.on hb)
      have Ha_18 := Lib.hid (Ha_17.out.on hb)
      have Hb_18 := Lib.hid (hr)
      clear hb HB_17 HX_17 HS_17 F_17 Ha_17
      clear hr HI2
      clear xF0 xF1 xF2 xF3 xF4 xF5
      go_wp2_with fail
      refine (DrawMapOf_any (A := A) (n := n) (c := c) w18 HX_18.out Hn.out hbd).mono ?_
      rintro e w19 ⟨A11, q11, c11, L11, rfl, hL11, ho, hq11, hb⟩
      have HB_19 := Lib.hid (HB_18.out.trans (hb.mono HB_18.out.size))
      have HX_19 := Lib.hid (HX_18.out.on hb)
      have Ha_19 := Lib.hid (Ha_18.out.on hb)
      have Hb_19 := Lib.hid (Hb_18.out.on hb)
      have HS_19 := Lib.hid (ho.readP)
      clear hb HB_18 HX_18 Ha_18 Hb_18
      have HL11 := Lib.hid hL11
      clear hL11 ho HL8 hq8
      obtain ⟨P5, hP5⟩ : ∃ P5, mapOfR L11 = P5 := ⟨_, rfl⟩
      obtain ⟨k5, hk5⟩ : ∃ k5, mapOfC L11 = k5 := ⟨_, rfl⟩
      have ek5 : (k5 != k5) = false := by simp
      have HI1 : Hid (∀ wx, RdI wx wx.heap.size A11 L11 → Calls Tryz.prog 14 #[.slice A11 q11 c11] wx fun e w' => e = .returned (.tuple #[.agg (mc P5), I k5]) ∧ Below wx.heap.size wx w') := fun wx hr => by have h := ImplMapOf_any A11 q11 c11 L11 wx hr HL11.out (by omega); rw [hP5, hk5] at h; exact h
      have HI2 : Hid (∀ wx, RdI wx wx.heap.size A11 L11 → Calls Tryz.prog 24 #[.slice A11 q11 c11] wx fun e w' => e = .returned (.tuple #[.agg (mc P5), I k5]) ∧ Below wx.heap.size wx w') := fun wx hr => by have h := SpecMapOf_any A11 q11 c11 L11 wx hr HL11.out (by omega); rw [hP5, hk5] at h; exact h
      clear hP5 hk5
      have heq5 := eqMap_run P5 P5
      rw [decide_eq_true rfl] at heq5
      go_wp2_with fail
      refine (HI1.out _ HS_19.out).mono ?_
      rintro e w20 ⟨rfl, hb⟩
      have HB_20 := Lib.hid (HB_19.out.trans (hb.mono HB_19.out.size))
      have HX_20 := Lib.hid (HX_19.out.on hb)
      have Ha_20 := Lib.hid (Ha_19.out.on hb)
      have Hb_20 := Lib.hid (Hb_19.out.on hb)
      have HS_20 := Lib.hid (HS_19.out.on hb)
      clear hb HB_19 HX_19 Ha_19 Hb_19 HS_19
      clear HI1
      have hb : Below w20.heap.size w20 (w20.alloc (.cells (mc P5) 26)) := (Below.refl _ _).alloc (Nat.le_refl _) _
      have HB_21 := Lib.hid (HB_20.out.trans (hb.mono HB_20.out.size))
      have HX_21 := Lib.hid (HX_20.out.on hb)
      have Ha_21 := Lib.hid (Ha_20.out.on hb)
      have Hb_21 := Lib.hid (Hb_20.out.on hb)
      have HS_21 := Lib.hid (HS_20.out.on hb)
      have G_21 := Lib.hid (show Blk (w20.alloc (.cells (mc P5) 26)) w20.heap.size 26 (mc P5) from Blk.new _ _ _)
      clear hb HB_20 HX_20 Ha_20 Hb_20 HS_20
      obtain ⟨xG0, xG1, xG2, xG3, xG4, xG5⟩ := G_21.out.six
      clear xG0 xG1 xG2 xG3 xG4 xG5
      go_wp2_with fail
      refine (HI2.out _ HS_21.out).mono ?_
      rintro e w22 ⟨rfl, hb⟩
      have HB_22 := Lib.hid (HB_21.out.trans (hb.mono HB_21.out.size))
      have HX_22 := Lib.hid (HX_21.out.on hb)
      have Ha_22 := Lib.hid (Ha_21.out.on hb)
      have Hb_22 := Lib.hid (Hb_21.out.on hb)
      have G_22 := Lib.hid (G_21.out.on hb)
      clear hb HB_21 HX_21 Ha_21 Hb_21 HS_21 G_21
      clear HI2
      have hb : Below w22.heap.size w22 (w22.alloc (.cells (mc P5) 26)) := (Below.refl _ _).alloc (Nat.le_refl _) _
      have HB_23 := Lib.hid (HB_22.out.trans (hb.mono HB_22.out.size))
      have HX_23 := Lib.hid (HX_22.out.on hb)
      have Ha_23 := Lib.hid (Ha_22.out.on hb)
      have Hb_23 := Lib.hid (Hb_22.out.on hb)
      have G_23 := Lib.hid (G_22.out.on hb)
      have K_23 := Lib.hid (show Blk (w22.alloc (.cells (mc P5) 26)) w22.heap.size 26 (mc P5) from Blk.new _ _ _)
      clear hb HB_22 HX_22 Ha_22 Hb_22 G_22
      obtain ⟨xK0, xK1, xK2, xK3, xK4, xK5⟩ := K_23.out.six
      clear xK0 xK1 xK2 xK3 xK4 xK5
      go_wp2_with fail
      refine (DrawParseMap_any (A := A) (n := n) (c := c) _ HX_23.out Hn.out HnB.out).mono ?_
      rintro e w24 ⟨tt, rfl, htt, hb⟩
      have HB_24 := Lib.hid (HB_23.out.trans (hb.mono HB_23.out.size))
      have HX_24 := Lib.hid (HX_23.out.on hb)
      have Ha_24 := Lib.hid (Ha_23.out.on hb)
      have Hb_24 := Lib.hid (Hb_23.out.on hb)
      have G_24 := Lib.hid (G_23.out.on hb)
      have K_24 := Lib.hid (K_23.out.on hb)
      clear hb HB_23 HX_23 Ha_23 Hb_23 G_23 K_23
      clear HL11 hq11
      obtain ⟨P6, hP6⟩ : ∃ P6, readR tt = P6 := ⟨_, rfl⟩
      obtain ⟨k6, hk6⟩ : ∃ k6, readC tt = k6 := ⟨_, rfl⟩
      have ek6 : (k6 != k6) = false := by simp
      have HI1 : Hid (∀ wx, Calls Tryz.prog 12 #[.string tt] wx fun e w' => e = .returned (.tuple #[.agg (mc P6), I k6]) ∧ Below wx.heap.size wx w') := fun wx => by have h := ImplParseMap_any tt wx (Nat.lt_trans htt (by decide)); rw [hP6, hk6] at h; exact h
      have HI2 : Hid (∀ wx, Calls Tryz.prog 26 #[.string tt] wx fun e w' => e = .returned (.tuple #[.agg (mc P6), I k6]) ∧ Below wx.heap.size wx w') := fun wx => by have h := SpecParseMap_any tt wx (Nat.lt_trans htt (by decide)); rw [hP6, hk6] at h; exact h
      clear hP6 hk6 htt
      have heq6 := eqMap_run P6 P6
      rw [decide_eq_true rfl] at heq6
      go_wp2_with fail
      refine (HI1.out _).mono ?_
      rintro e w25 ⟨rfl, hb⟩
      have HB_25 := Lib.hid (HB_24.out.trans (hb.mono HB_24.out.size))
      have HX_25 := Lib.hid (HX_24.out.on hb)
      have Ha_25 := Lib.hid (Ha_24.out.on hb)
      have Hb_25 := Lib.hid (Hb_24.out.on hb)
      have G_25 := Lib.hid (G_24.out.on hb)
      have K_25 := Lib.hid (K_24.out.on hb)
      clear hb HB_24 HX_24 Ha_24 Hb_24 G_24 K_24
      clear HI1
      have hb : Below w25.heap.size w25 (w25.alloc (.cells (mc P6) 26)) := (Below.refl _ _).alloc (Nat.le_refl _) _
      have HB_26 := Lib.hid (HB_25.out.trans (hb.mono HB_25.out.size))
      have HX_26 := Lib.hid (HX_25.out.on hb)
      have Ha_26 := Lib.hid (Ha_25.out.on hb)
      have Hb_26 := Lib.hid (Hb_25.out.on hb)
      have G_26 := Lib.hid (G_25.out.on hb)
      have K_26 := Lib.hid (K_25.out.on hb)
      have M_26 := Lib.hid (show Blk (w25.alloc (.cells (mc P6) 26)) w25.heap.size 26 (mc P6) from Blk.new _ _ _)
      clear hb HB_25 HX_25 Ha_25 Hb_25 G_25 K_25
      obtain ⟨xM0, xM1, xM2, xM3, xM4, xM5⟩ := M_26.out.six
      clear xM0 xM1 xM2 xM3 xM4 xM5
      go_wp2_with fail
      refine (HI2.out _).mono ?_
      rintro e w27 ⟨rfl, hb⟩
      have HB_27 := Lib.hid (HB_26.out.trans (hb.mono HB_26.out.size))
      have HX_27 := Lib.hid (HX_26.out.on hb)
      have Ha_27 := Lib.hid (Ha_26.out.on hb)
      have Hb_27 := Lib.hid (Hb_26.out.on hb)
      have G_27 := Lib.hid (G_26.out.on hb)
      have K_27 := Lib.hid (K_26.out.on hb)
      have M_27 := Lib.hid (M_26.out.on hb)
      clear hb HB_26 HX_26 Ha_26 Hb_26 G_26 K_26 M_26
      clear HI2
      have hb : Below w27.heap.size w27 (w27.alloc (.cells (mc P6) 26)) := (Below.refl _ _).alloc (Nat.le_refl _) _
      have HB_28 := Lib.hid (HB_27.out.trans (hb.mono HB_27.out.size))
      have HX_28 := Lib.hid (HX_27.out.on hb)
      have Ha_28 := Lib.hid (Ha_27.out.on hb)
      have Hb_28 := Lib.hid (Hb_27.out.on hb)
      have G_28 := Lib.hid (G_27.out.on hb)
      have K_28 := Lib.hid (K_27.out.on hb)
      have M_28 := Lib.hid (M_27.out.on hb)
      have N_28 := Lib.hid (show Blk (w27.alloc (.cells (mc P6) 26)) w27.heap.size 26 (mc P6) from Blk.new _ _ _)
      clear hb HB_27 HX_27 Ha_27 Hb_27 G_27 K_27 M_27
      obtain ⟨xN0, xN1, xN2, xN3, xN4, xN5⟩ := N_28.out.six
      clear xN0 xN1 xN2 xN3 xN4 xN5
      go_wp2_with fail
      refine (DrawCompareMaps_any (A := A) (n := n) (c := c) _ HX_28.out Hn.out hbd).mono ?_
      rintro e w29 ⟨x, y, rfl, hb⟩
      have HB_29 := Lib.hid (HB_28.out.trans (hb.mono HB_28.out.size))
      have HX_29 := Lib.hid (HX_28.out.on hb)
      have Ha_29 := Lib.hid (Ha_28.out.on hb)
      have Hb_29 := Lib.hid (Hb_28.out.on hb)
      have G_29 := Lib.hid (G_28.out.on hb)
      have K_29 := Lib.hid (K_28.out.on hb)
      have M_29 := Lib.hid (M_28.out.on hb)
      have N_29 := Lib.hid (N_28.out.on hb)
      clear hb HB_28 HX_28 Ha_28 Hb_28 G_28 K_28 M_28 N_28
      obtain ⟨r7, hr7⟩ : ∃ r7, cmpR x y = r7 := ⟨_, rfl⟩
      obtain ⟨k7, hk7⟩ : ∃ k7, cmpC x y = k7 := ⟨_, rfl⟩
      have ek7 : (k7 != k7) = false := by simp
      have er7 : (r7 != r7) = false := by simp
      have HI1 : Hid (∀ wx, Calls Tryz.prog 28 #[.agg (mc x), .agg (mc y)] wx fun e w' => e = .returned (.tuple #[I r7, I k7]) ∧ Below wx.heap.size wx w') := fun wx => by have h := ImplCompareMaps_any x y wx; rw [hr7, hk7] at h; exact h
      have HI2 : Hid (∀ wx, Calls Tryz.prog 29 #[.agg (mc x), .agg (mc y)] wx fun e w' => e = .returned (.tuple #[I r7, I k7]) ∧ Below wx.heap.size wx w') := fun wx => by have h := SpecCompareMaps_any x y wx; rw [hr7, hk7] at h; exact h
      clear hr7 hk7
      have hb : Below w29.heap.size w29 (w29.alloc (.cells (mc x) 26)) := (Below.refl _ _).alloc (Nat.le_refl _) _
      have HB_30 := Lib.hid (HB_29.out.trans (hb.mono HB_29.out.size))
      have HX_30 := Lib.hid (HX_29.out.on hb)
      have Ha_30 := Lib.hid (Ha_29.out.on hb)
      have Hb_30 := Lib.hid (Hb_29.out.on hb)
      have G_30 := Lib.hid (G_29.out.on hb)
      have K_30 := Lib.hid (K_29.out.on hb)
      have M_30 := Lib.hid (M_29.out.on hb)
      have N_30 := Lib.hid (N_29.out.on hb)
      have F_30 := Lib.hid (show Blk (w29.alloc (.cells (mc x) 26)) w29.heap.size 26 (mc x) from Blk.new _ _ _)
      clear hb HB_29 HX_29 Ha_29 Hb_29 G_29 K_29 M_29 N_29
      obtain ⟨xF0, xF1, xF2, xF3, xF4, xF5⟩ := F_30.out.six
      clear xF0 xF1 xF2 xF3 xF4 xF5
      have hb : Below (w29.alloc (.cells (mc x) 26)).heap.size (w29.alloc (.cells (mc x) 26)) ((w29.alloc (.cells (mc x) 26)).alloc (.cells (mc y) 26)) := (Below.refl _ _).alloc (Nat.le_refl _) _
      have HB_31 := Lib.hid (HB_30.out.trans (hb.mono HB_30.out.size))
      have HX_31 := Lib.hid (HX_30.out.on hb)
      have Ha_31 := Lib.hid (Ha_30.out.on hb)
      have Hb_31 := Lib.hid (Hb_30.out.on hb)
      have G_31 := Lib.hid (G_30.out.on hb)
      have K_31 := Lib.hid (K_30.out.on hb)
      have M_31 := Lib.hid (M_30.out.on hb)
      have N_31 := Lib.hid (N_30.out.on hb)
      have F_31 := Lib.hid (F_30.out.on hb)
      have J_31 := Lib.hid (show Blk ((w29.alloc (.cells (mc x) 26)).alloc (.cells (mc y) 26)) (w29.heap.size + 1) 26 (mc y) from Blk.new' _ _ _ (by simp))
      clear hb HB_30 HX_30 Ha_30 Hb_30 G_30 K_30 M_30 N_30 F_30
      obtain ⟨xJ0, xJ1, xJ2, xJ3, xJ4, xJ5⟩ := J_31.out.six
      obtain ⟨xF0, xF1, xF2, xF3, xF4, xF5⟩ := F_31.out.six
      go_wp2_with fail
      refine (HI1.out _).mono ?_
      rintro e w32 ⟨rfl, hb⟩
      have HB_32 := Lib.hid (HB_31.out.trans (hb.mono HB_31.out.size))
      have HX_32 := Lib.hid (HX_31.out.on hb)
      have Ha_32 := Lib.hid (Ha_31.out.on hb)
      have Hb_32 := Lib.hid (Hb_31.out.on hb)
      have G_32 := Lib.hid (G_31.out.on hb)
      have K_32 := Lib.hid (K_31.out.on hb)
      have M_32 := Lib.hid (M_31.out.on hb)
      have N_32 := Lib.hid (N_31.out.on hb)
      have F_32 := Lib.hid (F_31.out.on hb)
      have J_32 := Lib.hid (J_31.out.on hb)
      clear hb HB_31 HX_31 Ha_31 Hb_31 G_31 K_31 M_31 N_31 F_31 J_31
      clear HI1
      clear xF0 xF1 xF2 xF3 xF4 xF5 xJ0 xJ1 xJ2 xJ3 xJ4 xJ5
      obtain ⟨xF0, xF1, xF2, xF3, xF4, xF5⟩ := F_32.out.six
      obtain ⟨xJ0, xJ1, xJ2, xJ3, xJ4, xJ5⟩ := J_32.out.six
      go_wp2_with fail
      refine (HI2.out _).mono ?_
      rintro e w33 ⟨rfl, hb⟩
      have HB_33 := Lib.hid (HB_32.out.trans (hb.mono HB_32.out.size))
      have HX_33 := Lib.hid (HX_32.out.on hb)
      have Ha_33 := Lib.hid (Ha_32.out.on hb)
      have Hb_33 := Lib.hid (Hb_32.out.on hb)
      have G_33 := Lib.hid (G_32.out.on hb)
      have K_33 := Lib.hid (K_32.out.on hb)
      have M_33 := Lib.hid (M_32.out.on hb)
      have N_33 := Lib.hid (N_32.out.on hb)
      clear hb HB_32 HX_32 Ha_32 Hb_32 G_32 K_32 M_32 N_32 F_32 J_32
      clear HI2
      clear xF0 xF1 xF2 xF3 xF4 xF5 xJ0 xJ1 xJ2 xJ3 xJ4 xJ5
      go_wp2_with fail
      refine (DrawMapText_any (A := A) (n := n) (c := c) _ HX_33.out Hn.out hbd).mono ?_
      rintro e w34 ⟨u, rfl, hb⟩
      have HB_34 := Lib.hid (HB_33.out.trans (hb.mono HB_33.out.size))
      have Ha_34 := Lib.hid (Ha_33.out.on hb)
      have Hb_34 := Lib.hid (Hb_33.out.on hb)
      have G_34 := Lib.hid (G_33.out.on hb)
      have K_34 := Lib.hid (K_33.out.on hb)
      have M_34 := Lib.hid (M_33.out.on hb)
      have N_34 := Lib.hid (N_33.out.on hb)
      clear hb HB_33 HX_33 Ha_33 Hb_33 G_33 K_33 M_33 N_33
      obtain ⟨t8, ht8⟩ : ∃ t8, txtR u = t8 := ⟨_, rfl⟩
      obtain ⟨k8, hk8⟩ : ∃ k8, cInv (isMap u) = k8 := ⟨_, rfl⟩
      obtain ⟨n8, hn8⟩ : ∃ n8, (imgsR u).length = n8 := ⟨_, rfl⟩
      have ek8 : (k8 != k8) = false := by simp
      have hn82 : n8 < 1073741824 := by rw [← hn8]; exact imgsR_len u
      have HI1 : Hid (∀ wx, Calls Tryz.prog 11 #[.agg (mc u)] wx fun e w' => e = .returned (.tuple #[.string t8, I k8]) ∧ Below wx.heap.size wx w') := fun wx => by have h := ImplMapText_any u wx; rw [ht8, hk8] at h; exact h
      have HI2 : Hid (∀ wx, Calls Tryz.prog 31 #[.agg (mc u)] wx fun e w' => e = .returned (.tuple #[.string t8, I k8]) ∧ Below wx.heap.size wx w') := fun wx => by have h := SpecMapText_any u wx; rw [ht8, hk8] at h; exact h
      have HI3 : Hid (∀ wx, Calls Tryz.prog 13 #[.agg (mc u)] wx fun e w' => ∃ A c, e = .returned (.tuple #[.slice A n8 c, I k8]) ∧ RdI w' w'.heap.size A (imgsR u) ∧ Below wx.heap.size wx w') := fun wx => by have h := ImplImages_any u wx; rw [hk8] at h; exact h.mono fun e w' ⟨v, he, ho, hb⟩ => (by obtain ⟨A, c, rfl, hr⟩ := ho.len hn8; exact ⟨A, c, he, hr, hb⟩)
      have HI4 : Hid (∀ wx, Calls Tryz.prog 32 #[.agg (mc u)] wx fun e w' => ∃ A c, e = .returned (.tuple #[.slice A n8 c, I k8]) ∧ RdI w' w'.heap.size A (imgsR u) ∧ Below wx.heap.size wx w') := fun wx => by have h := SpecImages_any u wx; rw [hk8] at h; exact h.mono fun e w' ⟨v, he, ho, hb⟩ => (by obtain ⟨A, c, rfl, hr⟩ := ho.len hn8; exact ⟨A, c, he, hr, hb⟩)
      have Hn8 := Lib.hid hn8
      clear ht8 hk8 hn8
      have hb : Below w34.heap.size w34 (w34.alloc (.cells (mc u) 26)) := (Below.refl _ _).alloc (Nat.le_refl _) _
      have HB_35 := Lib.hid (HB_34.out.trans (hb.mono HB_34.out.size))
      have Ha_35 := Lib.hid (Ha_34.out.on hb)
      have Hb_35 := Lib.hid (Hb_34.out.on hb)
      have G_35 := Lib.hid (G_34.out.on hb)
      have K_35 := Lib.hid (K_34.out.on hb)
      have M_35 := Lib.hid (M_34.out.on hb)
      have N_35 := Lib.hid (N_34.out.on hb)
      have F_35 := Lib.hid (show Blk (w34.alloc (.cells (mc u) 26)) w34.heap.size 26 (mc u) from Blk.new _ _ _)
      clear hb HB_34 Ha_34 Hb_34 G_34 K_34 M_34 N_34
      obtain ⟨xF0, xF1, xF2, xF3, xF4, xF5⟩ := F_35.out.six
      go_wp2_with fail
      refine (HI1.out _).mono ?_
      rintro e w36 ⟨rfl, hb⟩
      have HB_36 := Lib.hid (HB_35.out.trans (hb.mono HB_35.out.size))
      have Ha_36 := Lib.hid (Ha_35.out.on hb)
      have Hb_36 := Lib.hid (Hb_35.out.on hb)
      have G_36 := Lib.hid (G_35.out.on hb)
      have K_36 := Lib.hid (K_35.out.on hb)
      have M_36 := Lib.hid (M_35.out.on hb)
      have N_36 := Lib.hid (N_35.out.on hb)
      have F_36 := Lib.hid (F_35.out.on hb)
      clear hb HB_35 Ha_35 Hb_35 G_35 K_35 M_35 N_35 F_35
      clear HI1
      clear xF0 xF1 xF2 xF3 xF4 xF5
      obtain ⟨xF0, xF1, xF2, xF3, xF4, xF5⟩ := F_36.out.six
      go_wp2_with fail
      refine (HI2.out _).mono ?_
      rintro e w37 ⟨rfl, hb⟩
      have HB_37 := Lib.hid (HB_36.out.trans (hb.mono HB_36.out.size))
      have Ha_37 := Lib.hid (Ha_36.out.on hb)
      have Hb_37 := Lib.hid (Hb_36.out.on hb)
      have G_37 := Lib.hid (G_36.out.on hb)
      have K_37 := Lib.hid (K_36.out.on hb)
      have M_37 := Lib.hid (M_36.out.on hb)
      have N_37 := Lib.hid (N_36.out.on hb)
      have F_37 := Lib.hid (F_36.out.on hb)
      clear hb HB_36 Ha_36 Hb_36 G_36 K_36 M_36 N_36 F_36
      clear HI2
      clear xF0 xF1 xF2 xF3 xF4 xF5
      obtain ⟨xF0, xF1, xF2, xF3, xF4, xF5⟩ := F_37.out.six
      go_wp2_with fail
      refine (HI3.out _).mono ?_
      rintro e w38 ⟨A12, c12, rfl, hr, hb⟩
      have HB_38 := Lib.hid (HB_37.out.trans (hb.mono HB_37.out.size))
      have Ha_38 := Lib.hid (Ha_37.out.on hb)
      have Hb_38 := Lib.hid (Hb_37.out.on hb)
      have G_38 := Lib.hid (G_37.out.on hb)
      have K_38 := Lib.hid (K_37.out.on hb)
      have M_38 := Lib.hid (M_37.out.on hb)
      have N_38 := Lib.hid (N_37.out.on hb)
      have F_38 := Lib.hid (F_37.out.on hb)
      have Hc_38 := Lib.hid (hr)
      clear hb HB_37 Ha_37 Hb_37 G_37 K_37 M_37 N_37 F_37
      clear hr HI3
      clear xF0 xF1 xF2 xF3 xF4 xF5
      obtain ⟨xF0, xF1, xF2, xF3, xF4, xF5⟩ := F_38.out.six
      go_wp2_with fail
      refine (HI4.out _).mono ?_
      rintro e w39 ⟨A13, c13, rfl, hr, hb⟩
      have HB_39 := Lib.hid (HB_38.out.trans (hb.mono HB_38.out.size))
      have Ha_39 := Lib.hid (Ha_38.out.on hb)
      have Hb_39 := Lib.hid (Hb_38.out.on hb)
      have G_39 := Lib.hid (G_38.out.on hb)
      have K_39 := Lib.hid (K_38.out.on hb)
      have M_39 := Lib.hid (M_38.out.on hb)
      have N_39 := Lib.hid (N_38.out.on hb)
      have Hc_39 := Lib.hid (Hc_38.out.on hb)
      have Hd_39 := Lib.hid (hr)
      clear hb HB_38 Ha_38 Hb_38 G_38 K_38 M_38 N_38 F_38 Hc_38
      clear hr HI4
      clear xF0 xF1 xF2 xF3 xF4 xF5
      go_wp2_with fail
      refine (likeInts_same A9 A10 np c9 c10 (preR l L8) _ Hnp.out Ha_39.out Hb_39.out hnp2).mono ?_
      rintro e w40 ⟨rfl, hb⟩
      have HB_40 := Lib.hid (HB_39.out.trans (hb.mono HB_39.out.size))
      have G_40 := Lib.hid (G_39.out.on hb)
      have K_40 := Lib.hid (K_39.out.on hb)
      have M_40 := Lib.hid (M_39.out.on hb)
      have N_40 := Lib.hid (N_39.out.on hb)
      have Hc_40 := Lib.hid (Hc_39.out.on hb)
      have Hd_40 := Lib.hid (Hd_39.out.on hb)
      clear hb HB_39 Ha_39 Hb_39 G_39 K_39 M_39 N_39 Hc_39 Hd_39
      obtain ⟨xG0, xG1, xG2, xG3, xG4, xG5⟩ := G_40.out.six
      obtain ⟨xK0, xK1, xK2, xK3, xK4, xK5⟩ := K_40.out.six
      obtain ⟨xM0, xM1, xM2, xM3, xM4, xM5⟩ := M_40.out.six
      obtain ⟨xN0, xN1, xN2, xN3, xN4, xN5⟩ := N_40.out.six
      go_wp2_with fail
      refine (likeInts_same A12 A13 n8 c12 c13 (imgsR u) _ Hn8.out Hc_40.out Hd_40.out hn82).mono ?_
      rintro e w41 ⟨rfl, hb⟩
      have HB_41 := Lib.hid (HB_40.out.trans (hb.mono HB_40.out.size))
      clear hb HB_40 G_40 K_40 M_40 N_40 Hc_40 Hd_40
      go_wp2
      go_ret
      exact ⟨rfl, HB_41.out⟩
end Go.Proofs.YtahamedecibmnaaGreat
