/- The walk of the statement on powers; the code lies below the heap's end. -/
import Derived.Test.YtkbfocoaobiijaaP2
import Derived.Test.YtkbfocoaobiijaaDRP
import Derived.Test.YtkbfocoaobiijaaGL
import Derived.Deep.DeepCutAuto
namespace Go.Proofs.Ytkbfocoaobiijaa
open Go.RowKit
set_option maxRecDepth 100000
set_option linter.unusedSimpArgs false
set_option linter.unusedVariables false

set_option maxHeartbeats 4000000 in
theorem lawPowers (A : Option Addr) (n c : Nat) (zs : List Int) (w : World) (hx : RdU w w.heap.size A zs) (hn : zs.length = n) :
    Calls Try.prog 3 #[.slice A n c] w fun e w' => e = .returned (.bool true) ∧ Below w.heap.size w w' := by
  by_cases hbig : 4096 < n
  · have HG : Hid (∀ w, Calls Try.prog 4 #[.slice A n c] w fun e w' => e = .returned (.bool true) ∧ Below w.heap.size w w') := fun w => by have h := big_any A n c w; rw [decide_eq_true hbig] at h; exact h
    clear hx
    go_enter Try.func3, Try.ntmps3
    go_wp2_with fail
    refine (HG.out w).mono ?_
    rintro e w1 ⟨rfl, hb⟩
    go_wp2
    go_ret
    exact ⟨rfl, hb⟩
  have HG : Hid (∀ w, Calls Try.prog 4 #[.slice A n c] w fun e w' => e = .returned (.bool false) ∧ Below w.heap.size w w') := fun w => by have h := big_any A n c w; rw [decide_eq_false hbig] at h; exact h
  have Hn := Lib.hid hn
  have HX_0 := Lib.hid hx
  have HB_0 := Lib.hid (Below.refl w.heap.size w)
  have hbd : n < 4611686018427387904 := by omega
  clear hx hbig hn
  go_enter Try.func3, Try.ntmps3
  go_wp2_with fail
  refine (HG.out w).mono ?_
  rintro e w1 ⟨rfl, hb⟩
  have HB_1 := Lib.hid (HB_0.out.trans (hb.mono HB_0.out.size))
  have HX_1 := Lib.hid (HX_0.out.on hb)
  clear hb HB_0 HX_0
  clear HG
  go_wp2_with fail
  refine (DrawPowerOf_any (A := A) (n := n) (c := c) w1 HX_1.out Hn.out hbd).mono ?_
  rintro e w2 ⟨f, k, rfl, hb⟩
  have HB_2 := Lib.hid (HB_1.out.trans (hb.mono HB_1.out.size))
  have HX_2 := Lib.hid (HX_1.out.on hb)
  clear hb HB_1 HX_1
  obtain ⟨P, hP⟩ : ∃ P, powR f k = P := ⟨_, rfl⟩
  obtain ⟨cp, hcp⟩ : ∃ cp, powC f k = cp := ⟨_, rfl⟩
  obtain ⟨ci, hci⟩ : ∃ ci, cInv (isMap f) = ci := ⟨_, rfl⟩
  have e1 : (cp != cp) = false := by simp
  have e2 : (ci != ci) = false := by simp
  have HP1 : Hid (∀ wx, Calls Try.prog 6 #[.agg (mc f), I k] wx fun e w' => e = .returned (.tuple #[.agg (mc P), I cp]) ∧ Below wx.heap.size wx w') := fun wx => by have h := ImplPower_any f k wx; rw [hP, hcp] at h; exact h
  have HP2 : Hid (∀ wx, Calls Try.prog 7 #[.agg (mc f), I k] wx fun e w' => e = .returned (.tuple #[.agg (mc P), I cp]) ∧ Below wx.heap.size wx w') := fun wx => by have h := SpecPower_any f k wx; rw [hP, hcp] at h; exact h
  have Hci := Lib.hid hci
  have HhP := Lib.hid hP
  have Hhc := Lib.hid hcp
  clear hci hP hcp
  have heq := eqMap_run P P
  rw [decide_eq_true rfl] at heq
  have hb : Below w2.heap.size w2 (w2.alloc (.cells (mc f) 26)) := (Below.refl _ _).alloc (Nat.le_refl _) _
  have HB_3 := Lib.hid (HB_2.out.trans (hb.mono HB_2.out.size))
  have HX_3 := Lib.hid (HX_2.out.on hb)
  have F_3 := Lib.hid (show Blk (w2.alloc (.cells (mc f) 26)) w2.heap.size 26 (mc f) from Blk.new _ _ _)
  clear hb HB_2 HX_2
  obtain ⟨xF0, xF1, xF2, xF3, xF4, xF5⟩ := F_3.out.six
  go_wp2_with fail
  refine (HP1.out (w2.alloc (.cells (mc f) 26))).mono ?_
  rintro e w4 ⟨rfl, hb⟩
  have HB_4 := Lib.hid (HB_3.out.trans (hb.mono HB_3.out.size))
  have HX_4 := Lib.hid (HX_3.out.on hb)
  have F_4 := Lib.hid (F_3.out.on hb)
  clear hb HB_3 HX_3 F_3
  clear HP1
  clear xF0 xF1 xF2 xF3 xF4 xF5
  have hb : Below w4.heap.size w4 (w4.alloc (.cells (mc P) 26)) := (Below.refl _ _).alloc (Nat.le_refl _) _
  have HB_5 := Lib.hid (HB_4.out.trans (hb.mono HB_4.out.size))
  have HX_5 := Lib.hid (HX_4.out.on hb)
  have F_5 := Lib.hid (F_4.out.on hb)
  have G_5 := Lib.hid (show Blk (w4.alloc (.cells (mc P) 26)) w4.heap.size 26 (mc P) from Blk.new _ _ _)
  clear hb HB_4 HX_4 F_4
  obtain ⟨xG0, xG1, xG2, xG3, xG4, xG5⟩ := G_5.out.six
  obtain ⟨xF0, xF1, xF2, xF3, xF4, xF5⟩ := F_5.out.six
  go_wp2_with fail
  refine (HP2.out (w4.alloc (.cells (mc P) 26))).mono ?_
  rintro e w6 ⟨rfl, hb⟩
  have HB_6 := Lib.hid (HB_5.out.trans (hb.mono HB_5.out.size))
  have HX_6 := Lib.hid (HX_5.out.on hb)
  have F_6 := Lib.hid (F_5.out.on hb)
  have G_6 := Lib.hid (G_5.out.on hb)
  clear hb HB_5 HX_5 F_5 G_5
  clear HP2
  clear xF0 xF1 xF2 xF3 xF4 xF5 xG0 xG1 xG2 xG3 xG4 xG5
  have hb : Below w6.heap.size w6 (w6.alloc (.cells (mc P) 26)) := (Below.refl _ _).alloc (Nat.le_refl _) _
  have HB_7 := Lib.hid (HB_6.out.trans (hb.mono HB_6.out.size))
  have HX_7 := Lib.hid (HX_6.out.on hb)
  have F_7 := Lib.hid (F_6.out.on hb)
  have G_7 := Lib.hid (G_6.out.on hb)
  have K_7 := Lib.hid (show Blk (w6.alloc (.cells (mc P) 26)) w6.heap.size 26 (mc P) from Blk.new _ _ _)
  clear hb HB_6 HX_6 F_6 G_6
  obtain ⟨xK0, xK1, xK2, xK3, xK4, xK5⟩ := K_7.out.six
  obtain ⟨xF0, xF1, xF2, xF3, xF4, xF5⟩ := F_7.out.six
  go_wp2_with fail
  refine (ImplIndex_any f (w6.alloc (.cells (mc P) 26))).mono ?_
  rintro e w8 ⟨⟨i, p, hi, rfl⟩, hb⟩
  have HB_8 := Lib.hid (HB_7.out.trans (hb.mono HB_7.out.size))
  have HX_8 := Lib.hid (HX_7.out.on hb)
  have F_8 := Lib.hid (F_7.out.on hb)
  have G_8 := Lib.hid (G_7.out.on hb)
  have K_8 := Lib.hid (K_7.out.on hb)
  clear hb HB_7 HX_7 F_7 G_7 K_7
  rw [Hci.out]
  have Hi := Lib.hid hi
  clear hi
  clear xF0 xF1 xF2 xF3 xF4 xF5 xK0 xK1 xK2 xK3 xK4 xK5
  obtain ⟨xF0, xF1, xF2, xF3, xF4, xF5⟩ := F_8.out.six
  go_wp2_with fail
  refine (SpecIndex_any f w8).mono ?_
  rintro e w9 ⟨⟨i', p', hi, rfl⟩, hb⟩
  have HB_9 := Lib.hid (HB_8.out.trans (hb.mono HB_8.out.size))
  have HX_9 := Lib.hid (HX_8.out.on hb)
  have F_9 := Lib.hid (F_8.out.on hb)
  have G_9 := Lib.hid (G_8.out.on hb)
  have K_9 := Lib.hid (K_8.out.on hb)
  clear hb HB_8 HX_8 F_8 G_8 K_8
  rw [Hci.out]
  obtain ⟨rfl, rfl⟩ := IP_uniq Hi.out hi
  clear hi Hci
  clear xF0 xF1 xF2 xF3 xF4 xF5
  have e3 : (i != i) = false := by simp
  have e4 : (p != p) = false := by simp
  obtain ⟨xF0, xF1, xF2, xF3, xF4, xF5⟩ := F_9.out.six
  obtain ⟨xG0, xG1, xG2, xG3, xG4, xG5⟩ := G_9.out.six
  obtain ⟨xK0, xK1, xK2, xK3, xK4, xK5⟩ := K_9.out.six
  go_upto_region 10 with fail
  clear xF0 xF1 xF2 xF3 xF4 xF5 xG0 xG1 xG2 xG3 xG4 xG5 xK0 xK1 xK2 xK3 xK4 xK5
  clear e1 e2 e3 e4 heq
  clear K_9
  obtain ⟨bb, hbb⟩ : ∃ bb, bb = (decide (cp = 0) && decide (i ≤ k) && decide (k < 900000000000)) := ⟨_, rfl⟩
  have Hbb := Lib.hid hbb
  clear hbb
  go_cut [138] from 446 (fun b138 wx => b138 = .bool bb ∧ Below w.heap.size w wx ∧ RdU wx wx.heap.size A zs ∧ Blk wx w2.heap.size 26 (mc f) ∧ Blk wx w4.heap.size 26 (mc P))
  case first =>
    by_cases h0 : cp = 0
    · have g0 : (cp == 0) = true := by simpa using h0
      have Hh0 := Lib.hid h0
      clear h0
      by_cases h1 : i ≤ k
      · by_cases h2 : k < 900000000000
        · have hb : bb = true := by rw [Hbb.out]; simp [Hh0.out, h1, h2]
          subst hb
          go_wp2_with fail
          go_meet
          exact ⟨rfl, HB_9.out, HX_9.out, F_9.out, G_9.out⟩
        · have hb : bb = false := by rw [Hbb.out]; simp [h2]
          subst hb
          go_wp2_with fail
          go_meet
          exact ⟨rfl, HB_9.out, HX_9.out, F_9.out, G_9.out⟩
      · have hb : bb = false := by rw [Hbb.out]; simp [h1]
        subst hb
        go_wp2_with fail
        go_meet
        exact ⟨rfl, HB_9.out, HX_9.out, F_9.out, G_9.out⟩
    · have g0 : (cp == 0) = false := by simpa using h0
      have hb : bb = false := by rw [Hbb.out]; simp [h0]
      subst hb
      clear h0
      go_wp2_with fail
      go_meet
      exact ⟨rfl, HB_9.out, HX_9.out, F_9.out, G_9.out⟩
  case rest =>
    clear HB_9 HX_9 F_9 G_9 
    obtain ⟨rfl, hB, hX, hF, hG⟩ := hcut
    skip
    have HB_c1 := Lib.hid hB
    have HX_c1 := Lib.hid hX
    have F_c1 := Lib.hid hF
    have G_c1 := Lib.hid hG
    clear hB hX hF hG
    go_upto_if 138 with fail
    go_cut [] from 446 (fun wx => Below w.heap.size w wx ∧ RdU wx wx.heap.size A zs)
    case first =>
      cases bb
      case false =>
        go_wp2_with fail
        go_meet
        exact ⟨HB_c1.out, HX_c1.out⟩
      case true =>
        have hbb := Hbb.out.symm
        simp only [Bool.and_eq_true, decide_eq_true_eq] at hbb
        obtain ⟨⟨h0, h1⟩, h2⟩ := hbb
        obtain ⟨l1, l2, l3, l4⟩ := pow_law Hi.out (Hhc.out.trans h0) h1 h2
        rw [HhP.out] at l2
        have hw : IntKind.i64.wrap (k + p) = k + p := IntWalk.i64_in _ ⟨by omega, by omega⟩
        have HP1 : Hid (∀ wx, Calls Try.prog 6 #[.agg (mc f), I (k + p)] wx fun e w' => e = .returned (.tuple #[.agg (mc P), I 0]) ∧ Below wx.heap.size wx w') := fun wx => by have h := ImplPower_any f (k + p) wx; rw [l1, l2] at h; exact h
        clear h0 h1 h2 l1 l2 l3 l4
        have heq := eqMap_run P P
        rw [decide_eq_true rfl] at heq
        obtain ⟨xF0, xF1, xF2, xF3, xF4, xF5⟩ := F_c1.out.six
        go_wp2_with fail
        refine (HP1.out _).mono ?_
        rintro e w10 ⟨rfl, hb⟩
        have HB_10 := Lib.hid (HB_c1.out.trans (hb.mono HB_c1.out.size))
        have HX_10 := Lib.hid (HX_c1.out.on hb)
        have F_10 := Lib.hid (F_c1.out.on hb)
        have G_10 := Lib.hid (G_c1.out.on hb)
        clear hb HB_c1 HX_c1 F_c1 G_c1
        clear HP1
        clear xF0 xF1 xF2 xF3 xF4 xF5
        have hb : Below w10.heap.size w10 (w10.alloc (.cells (mc P) 26)) := (Below.refl _ _).alloc (Nat.le_refl _) _
        have HB_11 := Lib.hid (HB_10.out.trans (hb.mono HB_10.out.size))
        have HX_11 := Lib.hid (HX_10.out.on hb)
        have F_11 := Lib.hid (F_10.out.on hb)
        have G_11 := Lib.hid (G_10.out.on hb)
        have L_11 := Lib.hid (show Blk (w10.alloc (.cells (mc P) 26)) w10.heap.size 26 (mc P) from Blk.new _ _ _)
        clear hb HB_10 HX_10 F_10 G_10
        obtain ⟨xL0, xL1, xL2, xL3, xL4, xL5⟩ := L_11.out.six
        obtain ⟨xG0, xG1, xG2, xG3, xG4, xG5⟩ := G_11.out.six
        go_wp2_with fail
        go_meet
        exact ⟨HB_11.out, HX_11.out⟩
    case rest =>
      clear HB_c1 HX_c1 F_c1 G_c1 Hbb HhP Hhc Hi
      obtain ⟨hB, hX⟩ := hcut
      skip
      have HB_c2 := Lib.hid hB
      have HX_c2 := Lib.hid hX
      clear hB hX 
      go_wp2_with fail
      refine (DrawIdempotentPower_any (A := A) (n := n) (c := c) wc HX_c2.out Hn.out hbd).mono ?_
      rintro e w10 ⟨g, rfl, hb⟩
      have HB_10 := Lib.hid (HB_c2.out.trans (hb.mono HB_c2.out.size))
      have HX_10 := Lib.hid (HX_c2.out.on hb)
      clear hb HB_c2 HX_c2
      obtain ⟨P2, hP2⟩ : ∃ P2, ipR g = P2 := ⟨_, rfl⟩
      obtain ⟨cg, hcg⟩ : ∃ cg, cInv (isMap g) = cg := ⟨_, rfl⟩
      obtain ⟨nc, hnc⟩ : ∃ nc, (cycR g).length = nc := ⟨_, rfl⟩
      have hnl : nc < 1073741824 := by rw [← hnc]; exact cycR_len g
      have e1 : (cg != cg) = false := by simp
      have HP1 : Hid (∀ wx, Calls Try.prog 11 #[.agg (mc g)] wx fun e w' => e = .returned (.tuple #[.agg (mc P2), I cg]) ∧ Below wx.heap.size wx w') := fun wx => by have h := ImplIdemPower_any g wx; rw [hP2, hcg] at h; exact h
      have HP2 : Hid (∀ wx, Calls Try.prog 12 #[.agg (mc g)] wx fun e w' => e = .returned (.tuple #[.agg (mc P2), I cg]) ∧ Below wx.heap.size wx w') := fun wx => by have h := SpecIdemPower_any g wx; rw [hP2, hcg] at h; exact h
      have HC1 : Hid (∀ wx, Calls Try.prog 13 #[.agg (mc g)] wx fun e w' => ∃ A c, e = .returned (.tuple #[.slice A nc c, I cg]) ∧ RdI w' w'.heap.size A (cycR g) ∧ Below wx.heap.size wx w') := fun wx => by have h := ImplCyclic_any g wx; rw [hcg] at h; exact h.mono fun e w' ⟨v, he, ho, hb⟩ => (by obtain ⟨A, c, rfl, hr⟩ := ho.len hnc; exact ⟨A, c, he, hr, hb⟩)
      have HC2 : Hid (∀ wx, Calls Try.prog 14 #[.agg (mc g)] wx fun e w' => ∃ A c, e = .returned (.tuple #[.slice A nc c, I cg]) ∧ RdI w' w'.heap.size A (cycR g) ∧ Below wx.heap.size wx w') := fun wx => by have h := SpecCyclic_any g wx; rw [hcg] at h; exact h.mono fun e w' ⟨v, he, ho, hb⟩ => (by obtain ⟨A, c, rfl, hr⟩ := ho.len hnc; exact ⟨A, c, he, hr, hb⟩)
      have HhP := Lib.hid hP2
      have Hhc := Lib.hid hcg
      have Hnc := Lib.hid hnc
      clear hP2 hcg hnc
      have heq := eqMap_run P2 P2
      rw [decide_eq_true rfl] at heq
      have hb : Below w10.heap.size w10 (w10.alloc (.cells (mc g) 26)) := (Below.refl _ _).alloc (Nat.le_refl _) _
      have HB_11 := Lib.hid (HB_10.out.trans (hb.mono HB_10.out.size))
      have HX_11 := Lib.hid (HX_10.out.on hb)
      have F_11 := Lib.hid (show Blk (w10.alloc (.cells (mc g) 26)) w10.heap.size 26 (mc g) from Blk.new _ _ _)
      clear hb HB_10 HX_10
      obtain ⟨xF0, xF1, xF2, xF3, xF4, xF5⟩ := F_11.out.six
      go_wp2_with fail
      refine (HP1.out _).mono ?_
      rintro e w12 ⟨rfl, hb⟩
      have HB_12 := Lib.hid (HB_11.out.trans (hb.mono HB_11.out.size))
      have HX_12 := Lib.hid (HX_11.out.on hb)
      have F_12 := Lib.hid (F_11.out.on hb)
      clear hb HB_11 HX_11 F_11
      clear HP1
      clear xF0 xF1 xF2 xF3 xF4 xF5
      have hb : Below w12.heap.size w12 (w12.alloc (.cells (mc P2) 26)) := (Below.refl _ _).alloc (Nat.le_refl _) _
      have HB_13 := Lib.hid (HB_12.out.trans (hb.mono HB_12.out.size))
      have HX_13 := Lib.hid (HX_12.out.on hb)
      have F_13 := Lib.hid (F_12.out.on hb)
      have G_13 := Lib.hid (show Blk (w12.alloc (.cells (mc P2) 26)) w12.heap.size 26 (mc P2) from Blk.new _ _ _)
      clear hb HB_12 HX_12 F_12
      obtain ⟨xG0, xG1, xG2, xG3, xG4, xG5⟩ := G_13.out.six
      obtain ⟨xF0, xF1, xF2, xF3, xF4, xF5⟩ := F_13.out.six
      go_wp2_with fail
      refine (HP2.out _).mono ?_
      rintro e w14 ⟨rfl, hb⟩
      have HB_14 := Lib.hid (HB_13.out.trans (hb.mono HB_13.out.size))
      have HX_14 := Lib.hid (HX_13.out.on hb)
      have F_14 := Lib.hid (F_13.out.on hb)
      have G_14 := Lib.hid (G_13.out.on hb)
      clear hb HB_13 HX_13 F_13 G_13
      clear HP2
      clear xF0 xF1 xF2 xF3 xF4 xF5 xG0 xG1 xG2 xG3 xG4 xG5
      have hb : Below w14.heap.size w14 (w14.alloc (.cells (mc P2) 26)) := (Below.refl _ _).alloc (Nat.le_refl _) _
      have HB_15 := Lib.hid (HB_14.out.trans (hb.mono HB_14.out.size))
      have HX_15 := Lib.hid (HX_14.out.on hb)
      have F_15 := Lib.hid (F_14.out.on hb)
      have G_15 := Lib.hid (G_14.out.on hb)
      have K_15 := Lib.hid (show Blk (w14.alloc (.cells (mc P2) 26)) w14.heap.size 26 (mc P2) from Blk.new _ _ _)
      clear hb HB_14 HX_14 F_14 G_14
      obtain ⟨xK0, xK1, xK2, xK3, xK4, xK5⟩ := K_15.out.six
      obtain ⟨xF0, xF1, xF2, xF3, xF4, xF5⟩ := F_15.out.six
      go_wp2_with fail
      refine (HC1.out _).mono ?_
      rintro e w16 ⟨A1, c1, rfl, hr, hb⟩
      have HB_16 := Lib.hid (HB_15.out.trans (hb.mono HB_15.out.size))
      have HX_16 := Lib.hid (HX_15.out.on hb)
      have F_16 := Lib.hid (F_15.out.on hb)
      have G_16 := Lib.hid (G_15.out.on hb)
      have K_16 := Lib.hid (K_15.out.on hb)
      have Ha_16 := Lib.hid (hr)
      clear hb HB_15 HX_15 F_15 G_15 K_15
      clear hr HC1
      clear xF0 xF1 xF2 xF3 xF4 xF5 xK0 xK1 xK2 xK3 xK4 xK5
      obtain ⟨xF0, xF1, xF2, xF3, xF4, xF5⟩ := F_16.out.six
      go_wp2_with fail
      refine (HC2.out _).mono ?_
      rintro e w17 ⟨A2, c2, rfl, hr, hb⟩
      have HB_17 := Lib.hid (HB_16.out.trans (hb.mono HB_16.out.size))
      have HX_17 := Lib.hid (HX_16.out.on hb)
      have F_17 := Lib.hid (F_16.out.on hb)
      have G_17 := Lib.hid (G_16.out.on hb)
      have K_17 := Lib.hid (K_16.out.on hb)
      have Ha_17 := Lib.hid (Ha_16.out.on hb)
      have Hb_17 := Lib.hid (hr)
      clear hb HB_16 HX_16 F_16 G_16 K_16 Ha_16
      clear hr HC2
      clear xF0 xF1 xF2 xF3 xF4 xF5
      clear F_17
      obtain ⟨xG0, xG1, xG2, xG3, xG4, xG5⟩ := G_17.out.six
      obtain ⟨xK0, xK1, xK2, xK3, xK4, xK5⟩ := K_17.out.six
      go_wp2_with fail
      refine (likeInts_same A1 A2 nc c1 c2 (cycR g) _ Hnc.out Ha_17.out Hb_17.out hnl).mono ?_
      rintro e w18 ⟨rfl, hb⟩
      have HB_18 := Lib.hid (HB_17.out.trans (hb.mono HB_17.out.size))
      have HX_18 := Lib.hid (HX_17.out.on hb)
      have G_18 := Lib.hid (G_17.out.on hb)
      have Ha_18 := Lib.hid (Ha_17.out.on hb)
      clear hb HB_17 HX_17 G_17 K_17 Ha_17 Hb_17
      clear xG0 xG1 xG2 xG3 xG4 xG5 xK0 xK1 xK2 xK3 xK4 xK5
      go_upto_if 196 with fail
      go_cut [196] from 446 (fun _ wx => Below w.heap.size w wx ∧ RdU wx wx.heap.size A zs)
      case first =>
        by_cases h0 : cg = 0
        · have g0 : (cg == 0) = true := by simpa using h0
          have hm : isMap g = true := by
            have h := Hhc.out
            rw [h0] at h
            cases hm : isMap g with
            | true => rfl
            | false => rw [hm] at h; cases h
          obtain ⟨_, l1, l2, l3, l4⟩ := idem_law hm
          rw [HhP.out] at l1 l2 l3 l4
          have h1 : (fixR P2).length = nc := by rw [l3]; exact Hnc.out
          have hnn : ((nc : Int) != (nc : Int)) = false := by simp
          have HQ1 : Hid (∀ wx, Calls Try.prog 16 #[.agg (mc P2)] wx fun e w' => e = .returned (.tuple #[.bool true, I 0]) ∧ Below wx.heap.size wx w') := fun wx => by have h := ImplIsIdem_any P2 wx; rw [l1, l2] at h; exact h
          have HQ2 : Hid (∀ wx, Calls Try.prog 17 #[.agg (mc P2)] wx fun e w' => ∃ A c, e = .returned (.tuple #[.slice A nc c, I 0]) ∧ RdI w' w'.heap.size A (cycR g) ∧ Below wx.heap.size wx w') := fun wx => by have h := ImplFixed_any P2 wx; rw [l1, l3] at h; exact h.mono fun e w' ⟨v, he, ho, hb⟩ => (by obtain ⟨A, c, rfl, hr⟩ := ho.len Hnc.out; exact ⟨A, c, he, hr, hb⟩)
          have HQ3 : Hid (∀ wx, Calls Try.prog 18 #[.agg (mc P2)] wx fun e w' => e = .returned (.tuple #[I nc, I 0]) ∧ Below wx.heap.size wx w') := fun wx => by have h := ImplRank_any P2 wx; rw [l1, l4, Hnc.out] at h; exact h
          clear h0 hm l1 l2 l3 l4 h1
          obtain ⟨xG0, xG1, xG2, xG3, xG4, xG5⟩ := G_18.out.six
          go_wp2_with fail
          refine (HQ1.out _).mono ?_
          rintro e w19 ⟨rfl, hb⟩
          have HB_19 := Lib.hid (HB_18.out.trans (hb.mono HB_18.out.size))
          have HX_19 := Lib.hid (HX_18.out.on hb)
          have G_19 := Lib.hid (G_18.out.on hb)
          have Ha_19 := Lib.hid (Ha_18.out.on hb)
          clear hb HB_18 HX_18 G_18 Ha_18
          clear HQ1
          clear xG0 xG1 xG2 xG3 xG4 xG5
          obtain ⟨xG0, xG1, xG2, xG3, xG4, xG5⟩ := G_19.out.six
          go_wp2_with fail
          refine (HQ2.out _).mono ?_
          rintro e w20 ⟨A3, c3, rfl, hr, hb⟩
          have HB_20 := Lib.hid (HB_19.out.trans (hb.mono HB_19.out.size))
          have HX_20 := Lib.hid (HX_19.out.on hb)
          have G_20 := Lib.hid (G_19.out.on hb)
          have Ha_20 := Lib.hid (Ha_19.out.on hb)
          have Hb_20 := Lib.hid (hr)
          clear hb HB_19 HX_19 G_19 Ha_19
          clear hr HQ2
          clear xG0 xG1 xG2 xG3 xG4 xG5
          obtain ⟨xG0, xG1, xG2, xG3, xG4, xG5⟩ := G_20.out.six
          go_wp2_with fail
          refine (HQ3.out _).mono ?_
          rintro e w21 ⟨rfl, hb⟩
          have HB_21 := Lib.hid (HB_20.out.trans (hb.mono HB_20.out.size))
          have HX_21 := Lib.hid (HX_20.out.on hb)
          have Ha_21 := Lib.hid (Ha_20.out.on hb)
          have Hb_21 := Lib.hid (Hb_20.out.on hb)
          clear hb HB_20 HX_20 G_20 Ha_20 Hb_20
          clear HQ3
          clear xG0 xG1 xG2 xG3 xG4 xG5
          go_wp2_with fail
          refine (likeInts_same A3 A1 nc c3 c1 (cycR g) _ Hnc.out Hb_21.out Ha_21.out hnl).mono ?_
          rintro e w22 ⟨rfl, hb⟩
          have HB_22 := Lib.hid (HB_21.out.trans (hb.mono HB_21.out.size))
          have HX_22 := Lib.hid (HX_21.out.on hb)
          have Ha_22 := Lib.hid (Ha_21.out.on hb)
          have Hb_22 := Lib.hid (Hb_21.out.on hb)
          clear hb HB_21 HX_21 Ha_21 Hb_21
          go_wp2_with fail
          go_meet
          exact ⟨HB_22.out, HX_22.out⟩
        · have g0 : (cg == 0) = false := by simpa using h0
          clear h0
          go_wp2_with fail
          go_meet
          exact ⟨HB_18.out, HX_18.out⟩
      case rest =>
        clear HB_18 HX_18 G_18 Ha_18 HhP Hhc Hnc hnl e1 heq
        obtain ⟨hB, hX⟩ := hcut
        skip
        have HB_c3 := Lib.hid hB
        have HX_c3 := Lib.hid hX
        clear hB hX 
        go_wp2_with fail
        refine (DrawInverseOf_any (A := A) (n := n) (c := c) wc HX_c3.out Hn.out hbd).mono ?_
        rintro e w19 ⟨h, rfl, hb⟩
        have HB_19 := Lib.hid (HB_c3.out.trans (hb.mono HB_c3.out.size))
        have HX_19 := Lib.hid (HX_c3.out.on hb)
        clear hb HB_c3 HX_c3
        obtain ⟨P3, hP3⟩ : ∃ P3, ivR h = P3 := ⟨_, rfl⟩
        obtain ⟨ch, hch⟩ : ∃ ch, ivC h = ch := ⟨_, rfl⟩
        have e1 : (ch != ch) = false := by simp
        have HP1 : Hid (∀ wx, Calls Try.prog 20 #[.agg (mc h)] wx fun e w' => e = .returned (.tuple #[.agg (mc P3), I ch]) ∧ Below wx.heap.size wx w') := fun wx => by have h := ImplInverse_any h wx; rw [hP3, hch] at h; exact h
        have HP2 : Hid (∀ wx, Calls Try.prog 21 #[.agg (mc h)] wx fun e w' => e = .returned (.tuple #[.agg (mc P3), I ch]) ∧ Below wx.heap.size wx w') := fun wx => by have h := SpecInverse_any h wx; rw [hP3, hch] at h; exact h
        have HhP := Lib.hid hP3
        have Hhc := Lib.hid hch
        clear hP3 hch
        have heq := eqMap_run P3 P3
        rw [decide_eq_true rfl] at heq
        have hb : Below w19.heap.size w19 (w19.alloc (.cells (mc h) 26)) := (Below.refl _ _).alloc (Nat.le_refl _) _
        have HB_20 := Lib.hid (HB_19.out.trans (hb.mono HB_19.out.size))
        have HX_20 := Lib.hid (HX_19.out.on hb)
        have F_20 := Lib.hid (show Blk (w19.alloc (.cells (mc h) 26)) w19.heap.size 26 (mc h) from Blk.new _ _ _)
        clear hb HB_19 HX_19
        obtain ⟨xF0, xF1, xF2, xF3, xF4, xF5⟩ := F_20.out.six
        go_wp2_with fail
        refine (HP1.out _).mono ?_
        rintro e w21 ⟨rfl, hb⟩
        have HB_21 := Lib.hid (HB_20.out.trans (hb.mono HB_20.out.size))
        have HX_21 := Lib.hid (HX_20.out.on hb)
        have F_21 := Lib.hid (F_20.out.on hb)
        clear hb HB_20 HX_20 F_20
        clear HP1
        clear xF0 xF1 xF2 xF3 xF4 xF5
        have hb : Below w21.heap.size w21 (w21.alloc (.cells (mc P3) 26)) := (Below.refl _ _).alloc (Nat.le_refl _) _
        have HB_22 := Lib.hid (HB_21.out.trans (hb.mono HB_21.out.size))
        have HX_22 := Lib.hid (HX_21.out.on hb)
        have F_22 := Lib.hid (F_21.out.on hb)
        have G_22 := Lib.hid (show Blk (w21.alloc (.cells (mc P3) 26)) w21.heap.size 26 (mc P3) from Blk.new _ _ _)
        clear hb HB_21 HX_21 F_21
        obtain ⟨xG0, xG1, xG2, xG3, xG4, xG5⟩ := G_22.out.six
        obtain ⟨xF0, xF1, xF2, xF3, xF4, xF5⟩ := F_22.out.six
        go_wp2_with fail
        refine (HP2.out _).mono ?_
        rintro e w23 ⟨rfl, hb⟩
        have HB_23 := Lib.hid (HB_22.out.trans (hb.mono HB_22.out.size))
        have HX_23 := Lib.hid (HX_22.out.on hb)
        have F_23 := Lib.hid (F_22.out.on hb)
        have G_23 := Lib.hid (G_22.out.on hb)
        clear hb HB_22 HX_22 F_22 G_22
        clear HP2
        clear xF0 xF1 xF2 xF3 xF4 xF5 xG0 xG1 xG2 xG3 xG4 xG5
        have hb : Below w23.heap.size w23 (w23.alloc (.cells (mc P3) 26)) := (Below.refl _ _).alloc (Nat.le_refl _) _
        have HB_24 := Lib.hid (HB_23.out.trans (hb.mono HB_23.out.size))
        have HX_24 := Lib.hid (HX_23.out.on hb)
        have F_24 := Lib.hid (F_23.out.on hb)
        have G_24 := Lib.hid (G_23.out.on hb)
        have K_24 := Lib.hid (show Blk (w23.alloc (.cells (mc P3) 26)) w23.heap.size 26 (mc P3) from Blk.new _ _ _)
        clear hb HB_23 HX_23 F_23 G_23
        obtain ⟨xK0, xK1, xK2, xK3, xK4, xK5⟩ := K_24.out.six
        obtain ⟨xF0, xF1, xF2, xF3, xF4, xF5⟩ := F_24.out.six
        obtain ⟨xG0, xG1, xG2, xG3, xG4, xG5⟩ := G_24.out.six
        go_upto_if 259 with fail
        go_cut [259] from 446 (fun _ wx => Below w.heap.size w wx ∧ RdU wx wx.heap.size A zs)
        case first =>
          clear xF0 xF1 xF2 xF3 xF4 xF5 xG0 xG1 xG2 xG3 xG4 xG5 xK0 xK1 xK2 xK3 xK4 xK5
          by_cases h0 : ch = 0
          · have g0 : (ch == 0) = true := by simpa using h0
            obtain ⟨l1, l2, l3⟩ := inv_law (Hhc.out.trans h0)
            rw [HhP.out] at l1 l2 l3
            obtain ⟨U, hU⟩ : ∃ U, mulR h P3 = U := ⟨_, rfl⟩
            rw [hU] at l2 l3
            obtain ⟨nf, hnf⟩ : ∃ nf, (fixR U).length = nf := ⟨_, rfl⟩
            have hnn : ((nf : Int) != h.p) = false := by rw [← l3, hnf]; simp
            have HQ1 : Hid (∀ wx, Calls Try.prog 22 #[.agg (mc h), .agg (mc P3)] wx fun e w' => e = .returned (.tuple #[.agg (mc U), I 0]) ∧ Below wx.heap.size wx w') := fun wx => by have h := ImplProduct_any h P3 wx; rw [l1, hU] at h; exact h
            have HQ2 : Hid (∀ wx, Calls Try.prog 17 #[.agg (mc U)] wx fun e w' => ∃ A c, e = .returned (.tuple #[.slice A nf c, I 0]) ∧ RdI w' w'.heap.size A (fixR U) ∧ Below wx.heap.size wx w') := fun wx => by have h := ImplFixed_any U wx; rw [l2] at h; exact h.mono fun e w' ⟨v, he, ho, hb⟩ => (by obtain ⟨A, c, rfl, hr⟩ := ho.len hnf; exact ⟨A, c, he, hr, hb⟩)
            clear h0 l1 l2 l3 hU hnf
            obtain ⟨xF0, xF1, xF2, xF3, xF4, xF5⟩ := F_24.out.six
            obtain ⟨xG0, xG1, xG2, xG3, xG4, xG5⟩ := G_24.out.six
            go_wp2_with fail
            refine (HQ1.out _).mono ?_
            rintro e w25 ⟨rfl, hb⟩
            have HB_25 := Lib.hid (HB_24.out.trans (hb.mono HB_24.out.size))
            have HX_25 := Lib.hid (HX_24.out.on hb)
            have F_25 := Lib.hid (F_24.out.on hb)
            clear hb HB_24 HX_24 F_24 G_24 K_24
            clear HQ1
            clear xF0 xF1 xF2 xF3 xF4 xF5 xG0 xG1 xG2 xG3 xG4 xG5
            have hb : Below w25.heap.size w25 (w25.alloc (.cells (mc U) 26)) := (Below.refl _ _).alloc (Nat.le_refl _) _
            have HB_26 := Lib.hid (HB_25.out.trans (hb.mono HB_25.out.size))
            have HX_26 := Lib.hid (HX_25.out.on hb)
            have F_26 := Lib.hid (F_25.out.on hb)
            have L_26 := Lib.hid (show Blk (w25.alloc (.cells (mc U) 26)) w25.heap.size 26 (mc U) from Blk.new _ _ _)
            clear hb HB_25 HX_25 F_25
            obtain ⟨xL0, xL1, xL2, xL3, xL4, xL5⟩ := L_26.out.six
            obtain ⟨xF0, xF1, xF2, xF3, xF4, xF5⟩ := F_26.out.six
            go_wp2_with fail
            refine (HQ2.out _).mono ?_
            rintro e w27 ⟨A3, c3, rfl, hr, hb⟩
            have HB_27 := Lib.hid (HB_26.out.trans (hb.mono HB_26.out.size))
            have HX_27 := Lib.hid (HX_26.out.on hb)
            have F_27 := Lib.hid (F_26.out.on hb)
            clear hb HB_26 HX_26 F_26 L_26
            clear hr HQ2
            clear xF0 xF1 xF2 xF3 xF4 xF5 xL0 xL1 xL2 xL3 xL4 xL5
            obtain ⟨xF0, xF1, xF2, xF3, xF4, xF5⟩ := F_27.out.six
            go_wp2_with fail
            go_meet
            exact ⟨HB_27.out, HX_27.out⟩
          · have g0 : (ch == 0) = false := by simpa using h0
            clear h0
            go_wp2_with fail
            go_meet
            exact ⟨HB_24.out, HX_24.out⟩
        case rest =>
          clear xF0 xF1 xF2 xF3 xF4 xF5 xG0 xG1 xG2 xG3 xG4 xG5 xK0 xK1 xK2 xK3 xK4 xK5
          clear HB_24 HX_24 F_24 G_24 K_24 HhP Hhc e1 heq
          obtain ⟨hB, hX⟩ := hcut
          skip
          have HB_c4 := Lib.hid hB
          have HX_c4 := Lib.hid hX
          clear hB hX 
          go_wp2_with fail
          refine (DrawRenumberMap_any (A := A) (n := n) (c := c) wc HX_c4.out Hn.out hbd).mono ?_
          rintro e w25 ⟨u, p, rfl, hb⟩
          have HB_25 := Lib.hid (HB_c4.out.trans (hb.mono HB_c4.out.size))
          have HX_25 := Lib.hid (HX_c4.out.on hb)
          clear hb HB_c4 HX_c4
          obtain ⟨P4, hP4⟩ : ∃ P4, rnR u p = P4 := ⟨_, rfl⟩
          obtain ⟨cu, hcu⟩ : ∃ cu, rnC u p = cu := ⟨_, rfl⟩
          have e1 : (cu != cu) = false := by simp
          have HP1 : Hid (∀ wx, Calls Try.prog 24 #[.agg (mc u), .agg (mc p)] wx fun e w' => e = .returned (.tuple #[.agg (mc P4), I cu]) ∧ Below wx.heap.size wx w') := fun wx => by have h := ImplRenumber_any u p wx; rw [hP4, hcu] at h; exact h
          have HP2 : Hid (∀ wx, Calls Try.prog 25 #[.agg (mc u), .agg (mc p)] wx fun e w' => e = .returned (.tuple #[.agg (mc P4), I cu]) ∧ Below wx.heap.size wx w') := fun wx => by have h := SpecRenumber_any u p wx; rw [hP4, hcu] at h; exact h
          have HhP := Lib.hid hP4
          have Hhc := Lib.hid hcu
          clear hP4 hcu
          have heq := eqMap_run P4 P4
          rw [decide_eq_true rfl] at heq
          have hb : Below w25.heap.size w25 (w25.alloc (.cells (mc u) 26)) := (Below.refl _ _).alloc (Nat.le_refl _) _
          have HB_26 := Lib.hid (HB_25.out.trans (hb.mono HB_25.out.size))
          have HX_26 := Lib.hid (HX_25.out.on hb)
          have F_26 := Lib.hid (show Blk (w25.alloc (.cells (mc u) 26)) w25.heap.size 26 (mc u) from Blk.new _ _ _)
          clear hb HB_25 HX_25
          obtain ⟨xF0, xF1, xF2, xF3, xF4, xF5⟩ := F_26.out.six
          clear xF0 xF1 xF2 xF3 xF4 xF5
          have hb : Below (w25.alloc (.cells (mc u) 26)).heap.size (w25.alloc (.cells (mc u) 26)) ((w25.alloc (.cells (mc u) 26)).alloc (.cells (mc p) 26)) := (Below.refl _ _).alloc (Nat.le_refl _) _
          have HB_27 := Lib.hid (HB_26.out.trans (hb.mono HB_26.out.size))
          have HX_27 := Lib.hid (HX_26.out.on hb)
          have F_27 := Lib.hid (F_26.out.on hb)
          have J_27 := Lib.hid (show Blk ((w25.alloc (.cells (mc u) 26)).alloc (.cells (mc p) 26)) (w25.heap.size + 1) 26 (mc p) from Blk.new' _ _ _ (by simp))
          clear hb HB_26 HX_26 F_26
          obtain ⟨xJ0, xJ1, xJ2, xJ3, xJ4, xJ5⟩ := J_27.out.six
          obtain ⟨xF0, xF1, xF2, xF3, xF4, xF5⟩ := F_27.out.six
          go_wp2_with fail
          refine (HP1.out _).mono ?_
          rintro e w28 ⟨rfl, hb⟩
          have HB_28 := Lib.hid (HB_27.out.trans (hb.mono HB_27.out.size))
          have HX_28 := Lib.hid (HX_27.out.on hb)
          have F_28 := Lib.hid (F_27.out.on hb)
          have J_28 := Lib.hid (J_27.out.on hb)
          clear hb HB_27 HX_27 F_27 J_27
          clear HP1
          clear xF0 xF1 xF2 xF3 xF4 xF5 xJ0 xJ1 xJ2 xJ3 xJ4 xJ5
          have hb : Below w28.heap.size w28 (w28.alloc (.cells (mc P4) 26)) := (Below.refl _ _).alloc (Nat.le_refl _) _
          have HB_29 := Lib.hid (HB_28.out.trans (hb.mono HB_28.out.size))
          have HX_29 := Lib.hid (HX_28.out.on hb)
          have F_29 := Lib.hid (F_28.out.on hb)
          have J_29 := Lib.hid (J_28.out.on hb)
          have G_29 := Lib.hid (show Blk (w28.alloc (.cells (mc P4) 26)) w28.heap.size 26 (mc P4) from Blk.new _ _ _)
          clear hb HB_28 HX_28 F_28 J_28
          obtain ⟨xG0, xG1, xG2, xG3, xG4, xG5⟩ := G_29.out.six
          obtain ⟨xF0, xF1, xF2, xF3, xF4, xF5⟩ := F_29.out.six
          obtain ⟨xJ0, xJ1, xJ2, xJ3, xJ4, xJ5⟩ := J_29.out.six
          go_wp2_with fail
          refine (HP2.out _).mono ?_
          rintro e w30 ⟨rfl, hb⟩
          have HB_30 := Lib.hid (HB_29.out.trans (hb.mono HB_29.out.size))
          have HX_30 := Lib.hid (HX_29.out.on hb)
          have F_30 := Lib.hid (F_29.out.on hb)
          have J_30 := Lib.hid (J_29.out.on hb)
          have G_30 := Lib.hid (G_29.out.on hb)
          clear hb HB_29 HX_29 F_29 J_29 G_29
          clear HP2
          clear xF0 xF1 xF2 xF3 xF4 xF5 xJ0 xJ1 xJ2 xJ3 xJ4 xJ5 xG0 xG1 xG2 xG3 xG4 xG5
          have hb : Below w30.heap.size w30 (w30.alloc (.cells (mc P4) 26)) := (Below.refl _ _).alloc (Nat.le_refl _) _
          have HB_31 := Lib.hid (HB_30.out.trans (hb.mono HB_30.out.size))
          have HX_31 := Lib.hid (HX_30.out.on hb)
          have F_31 := Lib.hid (F_30.out.on hb)
          have J_31 := Lib.hid (J_30.out.on hb)
          have G_31 := Lib.hid (G_30.out.on hb)
          have K_31 := Lib.hid (show Blk (w30.alloc (.cells (mc P4) 26)) w30.heap.size 26 (mc P4) from Blk.new _ _ _)
          clear hb HB_30 HX_30 F_30 J_30 G_30
          obtain ⟨xK0, xK1, xK2, xK3, xK4, xK5⟩ := K_31.out.six
          obtain ⟨xG0, xG1, xG2, xG3, xG4, xG5⟩ := G_31.out.six
          go_upto_if 310 with fail
          go_cut [310] from 446 (fun _ wx => Below w.heap.size w wx ∧ RdU wx wx.heap.size A zs)
          case first =>
            clear xG0 xG1 xG2 xG3 xG4 xG5 xK0 xK1 xK2 xK3 xK4 xK5
            by_cases h0 : cu = 0
            · have g0 : (cu == 0) = true := by simpa using h0
              obtain ⟨l1, l2, l3, l4⟩ := ren_law (Hhc.out.trans h0)
              rw [HhP.out] at l3 l4
              obtain ⟨Q2, hQ2⟩ : ∃ Q2, powR u 2 = Q2 := ⟨_, rfl⟩
              rw [hQ2] at l2 l4
              obtain ⟨Z, hZ⟩ : ∃ Z, rnR Q2 p = Z := ⟨_, rfl⟩
              have hZ2 : powR P4 2 = Z := by rw [← l4]; exact hZ
              have HQ1 : Hid (∀ wx, Calls Try.prog 6 #[.agg (mc u), I 2] wx fun e w' => e = .returned (.tuple #[.agg (mc Q2), I 0]) ∧ Below wx.heap.size wx w') := fun wx => by have h := ImplPower_any u 2 wx; rw [l1, hQ2] at h; exact h
              have HQ2 : Hid (∀ wx, Calls Try.prog 24 #[.agg (mc Q2), .agg (mc p)] wx fun e w' => e = .returned (.tuple #[.agg (mc Z), I 0]) ∧ Below wx.heap.size wx w') := fun wx => by have h := ImplRenumber_any Q2 p wx; rw [l2, hZ] at h; exact h
              have HQ3 : Hid (∀ wx, Calls Try.prog 6 #[.agg (mc P4), I 2] wx fun e w' => e = .returned (.tuple #[.agg (mc Z), I 0]) ∧ Below wx.heap.size wx w') := fun wx => by have h := ImplPower_any P4 2 wx; rw [l3, hZ2] at h; exact h
              clear h0 l1 l2 l3 l4 hQ2 hZ hZ2 heq
              have heq2 := eqMap_run Z Z
              rw [decide_eq_true rfl] at heq2
              obtain ⟨xF0, xF1, xF2, xF3, xF4, xF5⟩ := F_31.out.six
              go_wp2_with fail
              refine (HQ1.out _).mono ?_
              rintro e w32 ⟨rfl, hb⟩
              have HB_32 := Lib.hid (HB_31.out.trans (hb.mono HB_31.out.size))
              have HX_32 := Lib.hid (HX_31.out.on hb)
              have J_32 := Lib.hid (J_31.out.on hb)
              have G_32 := Lib.hid (G_31.out.on hb)
              clear hb HB_31 HX_31 F_31 J_31 G_31 K_31
              clear HQ1
              clear xF0 xF1 xF2 xF3 xF4 xF5
              have hb : Below w32.heap.size w32 (w32.alloc (.cells (mc Q2) 26)) := (Below.refl _ _).alloc (Nat.le_refl _) _
              have HB_33 := Lib.hid (HB_32.out.trans (hb.mono HB_32.out.size))
              have HX_33 := Lib.hid (HX_32.out.on hb)
              have J_33 := Lib.hid (J_32.out.on hb)
              have G_33 := Lib.hid (G_32.out.on hb)
              have L_33 := Lib.hid (show Blk (w32.alloc (.cells (mc Q2) 26)) w32.heap.size 26 (mc Q2) from Blk.new _ _ _)
              clear hb HB_32 HX_32 J_32 G_32
              obtain ⟨xL0, xL1, xL2, xL3, xL4, xL5⟩ := L_33.out.six
              obtain ⟨xJ0, xJ1, xJ2, xJ3, xJ4, xJ5⟩ := J_33.out.six
              go_wp2_with fail
              refine (HQ2.out _).mono ?_
              rintro e w34 ⟨rfl, hb⟩
              have HB_34 := Lib.hid (HB_33.out.trans (hb.mono HB_33.out.size))
              have HX_34 := Lib.hid (HX_33.out.on hb)
              have G_34 := Lib.hid (G_33.out.on hb)
              clear hb HB_33 HX_33 J_33 G_33 L_33
              clear HQ2
              clear xJ0 xJ1 xJ2 xJ3 xJ4 xJ5 xL0 xL1 xL2 xL3 xL4 xL5
              have hb : Below w34.heap.size w34 (w34.alloc (.cells (mc Z) 26)) := (Below.refl _ _).alloc (Nat.le_refl _) _
              have HB_35 := Lib.hid (HB_34.out.trans (hb.mono HB_34.out.size))
              have HX_35 := Lib.hid (HX_34.out.on hb)
              have G_35 := Lib.hid (G_34.out.on hb)
              have N_35 := Lib.hid (show Blk (w34.alloc (.cells (mc Z) 26)) w34.heap.size 26 (mc Z) from Blk.new _ _ _)
              clear hb HB_34 HX_34 G_34
              obtain ⟨xN0, xN1, xN2, xN3, xN4, xN5⟩ := N_35.out.six
              obtain ⟨xG0, xG1, xG2, xG3, xG4, xG5⟩ := G_35.out.six
              go_wp2_with fail
              refine (HQ3.out _).mono ?_
              rintro e w36 ⟨rfl, hb⟩
              have HB_36 := Lib.hid (HB_35.out.trans (hb.mono HB_35.out.size))
              have HX_36 := Lib.hid (HX_35.out.on hb)
              have N_36 := Lib.hid (N_35.out.on hb)
              clear hb HB_35 HX_35 G_35 N_35
              clear HQ3
              clear xN0 xN1 xN2 xN3 xN4 xN5 xG0 xG1 xG2 xG3 xG4 xG5
              have hb : Below w36.heap.size w36 (w36.alloc (.cells (mc Z) 26)) := (Below.refl _ _).alloc (Nat.le_refl _) _
              have HB_37 := Lib.hid (HB_36.out.trans (hb.mono HB_36.out.size))
              have HX_37 := Lib.hid (HX_36.out.on hb)
              have N_37 := Lib.hid (N_36.out.on hb)
              have R_37 := Lib.hid (show Blk (w36.alloc (.cells (mc Z) 26)) w36.heap.size 26 (mc Z) from Blk.new _ _ _)
              clear hb HB_36 HX_36 N_36
              obtain ⟨xR0, xR1, xR2, xR3, xR4, xR5⟩ := R_37.out.six
              obtain ⟨xN0, xN1, xN2, xN3, xN4, xN5⟩ := N_37.out.six
              go_wp2_with fail
              go_meet
              exact ⟨HB_37.out, HX_37.out⟩
            · have g0 : (cu == 0) = false := by simpa using h0
              clear h0
              go_wp2_with fail
              go_meet
              exact ⟨HB_31.out, HX_31.out⟩
          case rest =>
            clear xG0 xG1 xG2 xG3 xG4 xG5 xK0 xK1 xK2 xK3 xK4 xK5
            clear HB_31 HX_31 F_31 J_31 G_31 K_31 HhP Hhc e1 heq
            obtain ⟨hB, hX⟩ := hcut
            skip
            have HB_c5 := Lib.hid hB
            have HX_c5 := Lib.hid hX
            clear hB hX 
            go_wp2_with fail
            refine (DrawKernelOf_any (A := A) (n := n) (c := c) wc HX_c5.out Hn.out hbd).mono ?_
            rintro e w32 ⟨v, rfl, hb⟩
            have HB_32 := Lib.hid (HB_c5.out.trans (hb.mono HB_c5.out.size))
            have HX_32 := Lib.hid (HX_c5.out.on hb)
            clear hb HB_c5 HX_c5
            obtain ⟨cv, hcv⟩ : ∃ cv, cInv (isMap v) = cv := ⟨_, rfl⟩
            obtain ⟨nk, hnk⟩ : ∃ nk, (kerR v).length = nk := ⟨_, rfl⟩
            obtain ⟨rv, hrv⟩ : ∃ rv, rkR v = rv := ⟨_, rfl⟩
            have hnl : nk < 1073741824 := by rw [← hnk]; exact kerR_len v
            have e1 : (cv != cv) = false := by simp
            have e2 : (rv != rv) = false := by simp
            have HK1 : Hid (∀ wx, Calls Try.prog 27 #[.agg (mc v)] wx fun e w' => ∃ A c, e = .returned (.tuple #[.slice A nk c, I cv]) ∧ RdI w' w'.heap.size A (kerR v) ∧ Below wx.heap.size wx w') := fun wx => by have h := ImplKernel_any v wx; rw [hcv] at h; exact h.mono fun e w' ⟨v, he, ho, hb⟩ => (by obtain ⟨A, c, rfl, hr⟩ := ho.len hnk; exact ⟨A, c, he, hr, hb⟩)
            have HK2 : Hid (∀ wx, Calls Try.prog 28 #[.agg (mc v)] wx fun e w' => ∃ A c, e = .returned (.tuple #[.slice A nk c, I cv]) ∧ RdI w' w'.heap.size A (kerR v) ∧ Below wx.heap.size wx w') := fun wx => by have h := SpecKernel_any v wx; rw [hcv] at h; exact h.mono fun e w' ⟨v, he, ho, hb⟩ => (by obtain ⟨A, c, rfl, hr⟩ := ho.len hnk; exact ⟨A, c, he, hr, hb⟩)
            have HR1 : Hid (∀ wx, Calls Try.prog 18 #[.agg (mc v)] wx fun e w' => e = .returned (.tuple #[I rv, I cv]) ∧ Below wx.heap.size wx w') := fun wx => by have h := ImplRank_any v wx; rw [hrv, hcv] at h; exact h
            have HR2 : Hid (∀ wx, Calls Try.prog 29 #[.agg (mc v)] wx fun e w' => e = .returned (.tuple #[I rv, I cv]) ∧ Below wx.heap.size wx w') := fun wx => by have h := SpecRank_any v wx; rw [hrv, hcv] at h; exact h
            have Hhc := Lib.hid hcv
            have Hnk := Lib.hid hnk
            have Hrv := Lib.hid hrv
            clear hcv hnk hrv
            have hb : Below w32.heap.size w32 (w32.alloc (.cells (mc v) 26)) := (Below.refl _ _).alloc (Nat.le_refl _) _
            have HB_33 := Lib.hid (HB_32.out.trans (hb.mono HB_32.out.size))
            have HX_33 := Lib.hid (HX_32.out.on hb)
            have F_33 := Lib.hid (show Blk (w32.alloc (.cells (mc v) 26)) w32.heap.size 26 (mc v) from Blk.new _ _ _)
            clear hb HB_32 HX_32
            obtain ⟨xF0, xF1, xF2, xF3, xF4, xF5⟩ := F_33.out.six
            go_wp2_with fail
            refine (HK1.out _).mono ?_
            rintro e w34 ⟨A1, c1, rfl, hr, hb⟩
            have HB_34 := Lib.hid (HB_33.out.trans (hb.mono HB_33.out.size))
            have HX_34 := Lib.hid (HX_33.out.on hb)
            have F_34 := Lib.hid (F_33.out.on hb)
            have Ha_34 := Lib.hid (hr)
            clear hb HB_33 HX_33 F_33
            clear hr HK1
            clear xF0 xF1 xF2 xF3 xF4 xF5
            obtain ⟨xF0, xF1, xF2, xF3, xF4, xF5⟩ := F_34.out.six
            go_wp2_with fail
            refine (HK2.out _).mono ?_
            rintro e w35 ⟨A2, c2, rfl, hr, hb⟩
            have HB_35 := Lib.hid (HB_34.out.trans (hb.mono HB_34.out.size))
            have HX_35 := Lib.hid (HX_34.out.on hb)
            have F_35 := Lib.hid (F_34.out.on hb)
            have Ha_35 := Lib.hid (Ha_34.out.on hb)
            have Hb_35 := Lib.hid (hr)
            clear hb HB_34 HX_34 F_34 Ha_34
            clear hr HK2
            clear xF0 xF1 xF2 xF3 xF4 xF5
            obtain ⟨xF0, xF1, xF2, xF3, xF4, xF5⟩ := F_35.out.six
            go_wp2_with fail
            refine (HR1.out _).mono ?_
            rintro e w36 ⟨rfl, hb⟩
            have HB_36 := Lib.hid (HB_35.out.trans (hb.mono HB_35.out.size))
            have HX_36 := Lib.hid (HX_35.out.on hb)
            have F_36 := Lib.hid (F_35.out.on hb)
            have Ha_36 := Lib.hid (Ha_35.out.on hb)
            have Hb_36 := Lib.hid (Hb_35.out.on hb)
            clear hb HB_35 HX_35 F_35 Ha_35 Hb_35
            clear HR1
            clear xF0 xF1 xF2 xF3 xF4 xF5
            obtain ⟨xF0, xF1, xF2, xF3, xF4, xF5⟩ := F_36.out.six
            go_wp2_with fail
            refine (HR2.out _).mono ?_
            rintro e w37 ⟨rfl, hb⟩
            have HB_37 := Lib.hid (HB_36.out.trans (hb.mono HB_36.out.size))
            have HX_37 := Lib.hid (HX_36.out.on hb)
            have Ha_37 := Lib.hid (Ha_36.out.on hb)
            have Hb_37 := Lib.hid (Hb_36.out.on hb)
            clear hb HB_36 HX_36 F_36 Ha_36 Hb_36
            clear HR2
            clear xF0 xF1 xF2 xF3 xF4 xF5
            go_wp2_with fail
            refine (DrawFixedPoints_any (A := A) (n := n) (c := c) w37 HX_37.out Hn.out hbd).mono ?_
            rintro e w38 ⟨y, rfl, hb⟩
            have HB_38 := Lib.hid (HB_37.out.trans (hb.mono HB_37.out.size))
            have HX_38 := Lib.hid (HX_37.out.on hb)
            have Ha_38 := Lib.hid (Ha_37.out.on hb)
            have Hb_38 := Lib.hid (Hb_37.out.on hb)
            clear hb HB_37 HX_37 Ha_37 Hb_37
            obtain ⟨cy, hcy⟩ : ∃ cy, cInv (isMap y) = cy := ⟨_, rfl⟩
            obtain ⟨ny, hny⟩ : ∃ ny, (fixR y).length = ny := ⟨_, rfl⟩
            have hnly : ny < 1073741824 := by rw [← hny]; exact fixR_len y
            have e3 : (cy != cy) = false := by simp
            have HF1 : Hid (∀ wx, Calls Try.prog 17 #[.agg (mc y)] wx fun e w' => ∃ A c, e = .returned (.tuple #[.slice A ny c, I cy]) ∧ RdI w' w'.heap.size A (fixR y) ∧ Below wx.heap.size wx w') := fun wx => by have h := ImplFixed_any y wx; rw [hcy] at h; exact h.mono fun e w' ⟨v, he, ho, hb⟩ => (by obtain ⟨A, c, rfl, hr⟩ := ho.len hny; exact ⟨A, c, he, hr, hb⟩)
            have HF2 : Hid (∀ wx, Calls Try.prog 31 #[.agg (mc y)] wx fun e w' => ∃ A c, e = .returned (.tuple #[.slice A ny c, I cy]) ∧ RdI w' w'.heap.size A (fixR y) ∧ Below wx.heap.size wx w') := fun wx => by have h := SpecFixed_any y wx; rw [hcy] at h; exact h.mono fun e w' ⟨v, he, ho, hb⟩ => (by obtain ⟨A, c, rfl, hr⟩ := ho.len hny; exact ⟨A, c, he, hr, hb⟩)
            have Hny := Lib.hid hny
            clear hcy hny
            have hb : Below w38.heap.size w38 (w38.alloc (.cells (mc y) 26)) := (Below.refl _ _).alloc (Nat.le_refl _) _
            have HB_39 := Lib.hid (HB_38.out.trans (hb.mono HB_38.out.size))
            have HX_39 := Lib.hid (HX_38.out.on hb)
            have Ha_39 := Lib.hid (Ha_38.out.on hb)
            have Hb_39 := Lib.hid (Hb_38.out.on hb)
            have F_39 := Lib.hid (show Blk (w38.alloc (.cells (mc y) 26)) w38.heap.size 26 (mc y) from Blk.new _ _ _)
            clear hb HB_38 HX_38 Ha_38 Hb_38
            obtain ⟨xF0, xF1, xF2, xF3, xF4, xF5⟩ := F_39.out.six
            go_wp2_with fail
            refine (HF1.out _).mono ?_
            rintro e w40 ⟨A3, c3, rfl, hr, hb⟩
            have HB_40 := Lib.hid (HB_39.out.trans (hb.mono HB_39.out.size))
            have HX_40 := Lib.hid (HX_39.out.on hb)
            have Ha_40 := Lib.hid (Ha_39.out.on hb)
            have Hb_40 := Lib.hid (Hb_39.out.on hb)
            have F_40 := Lib.hid (F_39.out.on hb)
            have Hc_40 := Lib.hid (hr)
            clear hb HB_39 HX_39 Ha_39 Hb_39 F_39
            clear hr HF1
            clear xF0 xF1 xF2 xF3 xF4 xF5
            obtain ⟨xF0, xF1, xF2, xF3, xF4, xF5⟩ := F_40.out.six
            go_wp2_with fail
            refine (HF2.out _).mono ?_
            rintro e w41 ⟨A4, c4, rfl, hr, hb⟩
            have HB_41 := Lib.hid (HB_40.out.trans (hb.mono HB_40.out.size))
            have HX_41 := Lib.hid (HX_40.out.on hb)
            have Ha_41 := Lib.hid (Ha_40.out.on hb)
            have Hb_41 := Lib.hid (Hb_40.out.on hb)
            have Hc_41 := Lib.hid (Hc_40.out.on hb)
            have Hd_41 := Lib.hid (hr)
            clear hb HB_40 HX_40 Ha_40 Hb_40 F_40 Hc_40
            clear hr HF2
            clear xF0 xF1 xF2 xF3 xF4 xF5
            go_wp2_with fail
            refine (DrawIsIdempotent_any (A := A) (n := n) (c := c) w41 HX_41.out Hn.out hbd).mono ?_
            rintro e w42 ⟨x, rfl, hb⟩
            have HB_42 := Lib.hid (HB_41.out.trans (hb.mono HB_41.out.size))
            have HX_42 := Lib.hid (HX_41.out.on hb)
            have Ha_42 := Lib.hid (Ha_41.out.on hb)
            have Hb_42 := Lib.hid (Hb_41.out.on hb)
            have Hc_42 := Lib.hid (Hc_41.out.on hb)
            have Hd_42 := Lib.hid (Hd_41.out.on hb)
            clear hb HB_41 HX_41 Ha_41 Hb_41 Hc_41 Hd_41
            clear HX_42
            obtain ⟨cx, hcx⟩ : ∃ cx, cInv (isMap x) = cx := ⟨_, rfl⟩
            obtain ⟨bx, hbx⟩ : ∃ bx, idemR x = bx := ⟨_, rfl⟩
            have e4 : (cx != cx) = false := by simp
            have e5 : (bx != bx) = false := by simp
            have HI1 : Hid (∀ wx, Calls Try.prog 16 #[.agg (mc x)] wx fun e w' => e = .returned (.tuple #[.bool bx, I cx]) ∧ Below wx.heap.size wx w') := fun wx => by have h := ImplIsIdem_any x wx; rw [hbx, hcx] at h; exact h
            have HI2 : Hid (∀ wx, Calls Try.prog 33 #[.agg (mc x)] wx fun e w' => e = .returned (.tuple #[.bool bx, I cx]) ∧ Below wx.heap.size wx w') := fun wx => by have h := SpecIsIdem_any x wx; rw [hbx, hcx] at h; exact h
            clear hcx hbx
            have hb : Below w42.heap.size w42 (w42.alloc (.cells (mc x) 26)) := (Below.refl _ _).alloc (Nat.le_refl _) _
            have HB_43 := Lib.hid (HB_42.out.trans (hb.mono HB_42.out.size))
            have Ha_43 := Lib.hid (Ha_42.out.on hb)
            have Hb_43 := Lib.hid (Hb_42.out.on hb)
            have Hc_43 := Lib.hid (Hc_42.out.on hb)
            have Hd_43 := Lib.hid (Hd_42.out.on hb)
            have F_43 := Lib.hid (show Blk (w42.alloc (.cells (mc x) 26)) w42.heap.size 26 (mc x) from Blk.new _ _ _)
            clear hb HB_42 Ha_42 Hb_42 Hc_42 Hd_42
            obtain ⟨xF0, xF1, xF2, xF3, xF4, xF5⟩ := F_43.out.six
            go_wp2_with fail
            refine (HI1.out _).mono ?_
            rintro e w44 ⟨rfl, hb⟩
            have HB_44 := Lib.hid (HB_43.out.trans (hb.mono HB_43.out.size))
            have Ha_44 := Lib.hid (Ha_43.out.on hb)
            have Hb_44 := Lib.hid (Hb_43.out.on hb)
            have Hc_44 := Lib.hid (Hc_43.out.on hb)
            have Hd_44 := Lib.hid (Hd_43.out.on hb)
            have F_44 := Lib.hid (F_43.out.on hb)
            clear hb HB_43 Ha_43 Hb_43 Hc_43 Hd_43 F_43
            clear HI1
            clear xF0 xF1 xF2 xF3 xF4 xF5
            obtain ⟨xF0, xF1, xF2, xF3, xF4, xF5⟩ := F_44.out.six
            go_wp2_with fail
            refine (HI2.out _).mono ?_
            rintro e w45 ⟨rfl, hb⟩
            have HB_45 := Lib.hid (HB_44.out.trans (hb.mono HB_44.out.size))
            have Ha_45 := Lib.hid (Ha_44.out.on hb)
            have Hb_45 := Lib.hid (Hb_44.out.on hb)
            have Hc_45 := Lib.hid (Hc_44.out.on hb)
            have Hd_45 := Lib.hid (Hd_44.out.on hb)
            clear hb HB_44 Ha_44 Hb_44 Hc_44 Hd_44 F_44
            clear HI2
            clear xF0 xF1 xF2 xF3 xF4 xF5
            go_wp2_with fail
            refine (likeInts_same A1 A2 nk c1 c2 (kerR v) _ Hnk.out Ha_45.out Hb_45.out hnl).mono ?_
            rintro e w46 ⟨rfl, hb⟩
            have HB_46 := Lib.hid (HB_45.out.trans (hb.mono HB_45.out.size))
            have Ha_46 := Lib.hid (Ha_45.out.on hb)
            have Hc_46 := Lib.hid (Hc_45.out.on hb)
            have Hd_46 := Lib.hid (Hd_45.out.on hb)
            clear hb HB_45 Ha_45 Hb_45 Hc_45 Hd_45
            go_wp2_with fail
            refine (likeInts_same A3 A4 ny c3 c4 (fixR y) _ Hny.out Hc_46.out Hd_46.out hnly).mono ?_
            rintro e w47 ⟨rfl, hb⟩
            have HB_47 := Lib.hid (HB_46.out.trans (hb.mono HB_46.out.size))
            have Ha_47 := Lib.hid (Ha_46.out.on hb)
            clear hb HB_46 Ha_46 Hc_46 Hd_46
            by_cases h0 : cv = 0
            · have g0 : (cv == 0) = true := by simpa using h0
              have hm : isMap v = true := by
                have h := Hhc.out
                rw [h0] at h
                cases hm : isMap v with
                | true => rfl
                | false => rw [hm] at h; cases h
              obtain ⟨l1, l2, l3⟩ := ker_law hm
              rw [Hnk.out] at l1 l2 l3
              rw [Hrv.out] at l1
              have Hl1 := Lib.hid l1
              have Hl3 := Lib.hid l3
              clear h0 hm l1 l3 e1 e2 e3 e4 e5
              go_wp2_with fail
              go_loopw [72, 73] (fun s i wr => ∃ k : Nat, k ≤ nk ∧ i = .int .i64 k ∧ s = .int .i64 (mxk (kerR v) k) ∧ Below w47.heap.size w47 wr) (fun _ i _ => nk - (intOf i).toNat)
              case atStart => exact ⟨0, by omega, rfl, rfl, Below.refl _ _⟩
              case round =>
                obtain ⟨k, hk, rfl, rfl, hbel⟩ := hrel
                have Hbl := Lib.hid hbel
                by_cases hlt : k < nk
                · obtain ⟨b, off, rfl, hbb, s1⟩ := RdI.at_ (Ha_47.out.on hbel) (k := k) (by rw [Hnk.out]; omega)
                  have i0 : (0 : Int) ≤ (k : Int) := by omega
                  have i1 : (k : Int) < (nk : Int) := by omega
                  have h3 := Hl3.out k hlt
                  have hw : IntKind.i64.wrap (gi (kerR v) k + 1) = gi (kerR v) k + 1 := IntWalk.i64_in _ ⟨by omega, by omega⟩
                  have hmx : Hid (max (mxk (kerR v) k) (gi (kerR v) k + 1) = mxk (kerR v) (k + 1)) := rfl
                  clear hbel h3
                  go_wp2
                  go_roundw
                  case rel => exact ⟨k + 1, by omega, by go_num, by rw [← hmx.out] <;> rfl, Hbl.out⟩
                  case measure => simp [intOf]; omega
                · obtain rfl : k = nk := by omega
                  clear hbel
                  have hmx := Hl1.out
                  go_wp2
                  go_ret
                  exact ⟨rfl, HB_47.out.trans (Hbl.out.mono HB_47.out.size)⟩
            · have g0 : (cv == 0) = false := by simpa using h0
              clear h0
              go_wp2
              go_ret
              exact ⟨rfl, HB_47.out⟩
end Go.Proofs.Ytkbfocoaobiijaa
