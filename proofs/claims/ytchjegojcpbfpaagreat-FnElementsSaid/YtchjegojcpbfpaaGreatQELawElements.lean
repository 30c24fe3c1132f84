/- The walk of the statement on elements; the code lies below the heap's end. -/
import Derived.Test.YtchjegojcpbfpaaGreatQE10
import Derived.Test.YtchjegojcpbfpaaGreatQE11
import Derived.Deep.DeepCutAuto
import Derived.Deep.QuietTactic
import Derived.BigQuiet
set_option linter.unusedSimpArgs false
set_option linter.unusedVariables false
namespace Go.Proofs.YtchjegojcpbfpaaGreat
open Go.RowKit
set_option maxRecDepth 100000
set_option linter.unusedSimpArgs false
set_option linter.unusedVariables false
set_option maxHeartbeats 40000000 in
theorem lawElements (A : Option Addr) (n c : Nat) (zs : List Int) (w : World) (hx : RdU w w.heap.size A zs) (hn : zs.length = n) :
    Calls Tryz.prog 3 #[.slice A n c] w fun e w' => e = .returned (.bool true) ∧ Below w.heap.size w w' := by
  by_cases hbig : 4096 < n
  · have HG : Hid (∀ w, Calls Tryz.prog 5 #[.slice A n c] w fun e w' => e = .returned (.bool true) ∧ Below w.heap.size w w') := fun w => by have h := big_any A n c w; rw [decide_eq_true hbig] at h; exact h
    clear hx
    go_enter Tryz.func3, Tryz.ntmps3
    go_wp2_with fail
    refine (HG.out w).mono ?_
    rintro e w1 ⟨rfl, hb⟩
    go_wp2
    go_ret
    exact ⟨rfl, hb⟩
  have HG : Hid (∀ w, Calls Tryz.prog 5 #[.slice A n c] w fun e w' => e = .returned (.bool false) ∧ Below w.heap.size w w') := fun w => by have h := big_any A n c w; rw [decide_eq_false hbig] at h; exact h
  have Hn := Lib.hid hn
  have HX_0 := Lib.hid hx
  have HB_0 := Lib.hid (Below.refl w.heap.size w)
  have hbd : n < 4611686018427387904 := by omega
  clear hx hbig hn
  go_enter Tryz.func3, Tryz.ntmps3
  go_wp2_with fail
  refine (HG.out w).mono ?_
  rintro e w1 ⟨rfl, hb⟩
  have HB_1 := Lib.hid (HB_0.out.trans (hb.mono HB_0.out.size))
  have HX_1 := Lib.hid (HX_0.out.on hb)
  clear hb HB_0 HX_0
  clear HG
  go_wp2_with fail
  refine (DrawUnitsOf_any (A := A) (n := n) (c := c) w1 HX_1.out Hn.out hbd).mono ?_
  rintro e w2 ⟨A1, q1, c1, L1, rfl, hq, ho, hq7, hb⟩
  have HB_2 := Lib.hid (HB_1.out.trans (hb.mono HB_1.out.size))
  have HX_2 := Lib.hid (HX_1.out.on hb)
  have HL_2 := Lib.hid (ho.read)
  clear hb HB_1 HX_1
  have HN1 := Lib.hid ho.noneA
  have Hq1 := Lib.hid hq
  have hr1 : q1 < 536870912 := by omega
  clear hq ho hq7
  obtain ⟨k1, hk1⟩ : ∃ k1, elC L1 [] = k1 := ⟨_, rfl⟩
  obtain ⟨nu, hnu⟩ : ∃ nu, (thatR unitB L1).length = nu := ⟨_, rfl⟩
  obtain ⟨kz, hkz⟩ : ∃ kz, zeroC L1 = kz := ⟨_, rfl⟩
  obtain ⟨Z, hZ⟩ : ∃ Z, zeroR L1 = Z := ⟨_, rfl⟩
  obtain ⟨ni, hni⟩ : ∃ ni, (thatR idemB L1).length = ni := ⟨_, rfl⟩
  obtain ⟨nz, hnz⟩ : ∃ nz, (thatR centB L1).length = nz := ⟨_, rfl⟩
  have hnu300 : nu ≤ 300 := by rw [← hnu]; exact that_len _ _
  have hni300 : ni ≤ 300 := by rw [← hni]; exact that_len _ _
  have hnz300 : nz ≤ 300 := by rw [← hnz]; exact that_len _ _
  have ek1 : (k1 != k1) = false := by simp
  have ekz : (kz != kz) = false := by simp
  have HIu : Hid (∀ wx, RdM wx wx.heap.size A1 L1 → Calls Tryz.prog 7 #[.slice A1 q1 c1] wx (RetR (thatR unitB L1) nu k1 wx)) := fun wx hr => (unitF_any A1 q1 c1 L1 wx hr Hq1.out.symm HN1.out hr1).mono fun e w' h => (RetM.toS h).toR hnu hk1
  have HSu : Hid (∀ wx, RdM wx wx.heap.size A1 L1 → Calls Tryz.prog 8 #[.slice A1 q1 c1] wx (RetR (thatR unitB L1) nu k1 wx)) := fun wx hr => (SpecUnits_any A1 q1 c1 L1 wx hr Hq1.out.symm (by omega)).mono fun e w' h => RetS.toR h hnu hk1
  have HIz : Hid (∀ wx, RdM wx wx.heap.size A1 L1 → Calls Tryz.prog 10 #[.slice A1 q1 c1] wx fun e w' => e = .returned (.tuple #[.agg (mc Z), I kz]) ∧ Below wx.heap.size wx w') := fun wx hr => by have h := zeroF_any A1 q1 c1 L1 wx hr Hq1.out.symm HN1.out hr1; rw [hkz, hZ] at h; exact h
  have HSz : Hid (∀ wx, RdM wx wx.heap.size A1 L1 → Calls Tryz.prog 11 #[.slice A1 q1 c1] wx fun e w' => e = .returned (.tuple #[.agg (mc Z), I kz]) ∧ Below wx.heap.size wx w') := fun wx hr => by have h := SpecZero_any A1 q1 c1 L1 wx hr Hq1.out.symm (by omega); rw [hkz, hZ] at h; exact h
  have HIi : Hid (∀ wx, RdM wx wx.heap.size A1 L1 → Calls Tryz.prog 15 #[.slice A1 q1 c1] wx (RetR (thatR idemB L1) ni k1 wx)) := fun wx hr => (idemF_any A1 q1 c1 L1 wx hr Hq1.out.symm HN1.out hr1).mono fun e w' h => (RetM.toS h).toR hni hk1
  have HSi : Hid (∀ wx, RdM wx wx.heap.size A1 L1 → Calls Tryz.prog 16 #[.slice A1 q1 c1] wx (RetR (thatR idemB L1) ni k1 wx)) := fun wx hr => (SpecIdem_any A1 q1 c1 L1 wx hr Hq1.out.symm (by omega)).mono fun e w' h => RetS.toR h hni hk1
  have HIc : Hid (∀ wx, RdM wx wx.heap.size A1 L1 → Calls Tryz.prog 17 #[.slice A1 q1 c1] wx (RetR (thatR centB L1) nz k1 wx)) := fun wx hr => (centreF_any A1 q1 c1 L1 wx hr Hq1.out.symm HN1.out hr1).mono fun e w' h => (RetM.toS h).toR hnz hk1
  have HSc : Hid (∀ wx, RdM wx wx.heap.size A1 L1 → Calls Tryz.prog 18 #[.slice A1 q1 c1] wx (RetR (thatR centB L1) nz k1 wx)) := fun wx hr => (SpecCentre_any A1 q1 c1 L1 wx hr Hq1.out.symm (by omega)).mono fun e w' h => RetS.toR h hnz hk1
  have Hk1 := Lib.hid hk1
  have Hnu := Lib.hid hnu
  have Hkz := Lib.hid hkz
  have HZ := Lib.hid hZ
  have Hni := Lib.hid hni
  have Hnz := Lib.hid hnz
  clear hk1 hnu hkz hZ hni hnz
  have heqZ := eqMap_run Z Z
  rw [decide_eq_true rfl] at heqZ
  go_wp2_with fail
  refine (HIu.out _ HL_2.out).mono ?_
  rintro e w3 ⟨A2, c2, rfl, hr, hb⟩
  have HB_3 := Lib.hid (HB_2.out.trans (hb.mono HB_2.out.size))
  have HX_3 := Lib.hid (HX_2.out.on hb)
  have HL_3 := Lib.hid (HL_2.out.on hb)
  have HU_3 := Lib.hid (hr)
  clear hb HB_2 HX_2 HL_2
  clear hr HIu
  go_wp2_with fail
  refine (HSu.out _ HL_3.out).mono ?_
  rintro e w4 ⟨A3, c3, rfl, hr, hb⟩
  have HB_4 := Lib.hid (HB_3.out.trans (hb.mono HB_3.out.size))
  have HX_4 := Lib.hid (HX_3.out.on hb)
  have HL_4 := Lib.hid (HL_3.out.on hb)
  have HU_4 := Lib.hid (HU_3.out.on hb)
  have Hb_4 := Lib.hid (hr)
  clear hb HB_3 HX_3 HL_3 HU_3
  clear hr HSu
  go_wp2_with fail
  refine (maps9_same A2 A3 nu c2 c3 (thatR unitB L1) w4 Hnu.out HU_4.out Hb_4.out (by omega)).mono ?_
  rintro e w5 ⟨rfl, hb⟩
  have HB_5 := Lib.hid (HB_4.out.trans (hb.mono HB_4.out.size))
  have HX_5 := Lib.hid (HX_4.out.on hb)
  have HL_5 := Lib.hid (HL_4.out.on hb)
  have HU_5 := Lib.hid (HU_4.out.on hb)
  clear hb HB_4 HX_4 HL_4 HU_4 Hb_4
  go_wp2_with fail
  refine (HIz.out _ HL_5.out).mono ?_
  rintro e w6 ⟨rfl, hb⟩
  have HB_6 := Lib.hid (HB_5.out.trans (hb.mono HB_5.out.size))
  have HX_6 := Lib.hid (HX_5.out.on hb)
  have HL_6 := Lib.hid (HL_5.out.on hb)
  have HU_6 := Lib.hid (HU_5.out.on hb)
  clear hb HB_5 HX_5 HL_5 HU_5
  clear HIz
  have hb : Below w6.heap.size w6 (w6.alloc (.cells (mc Z) 31)) := (Below.refl _ _).alloc (Nat.le_refl _) _
  have HB_7 := Lib.hid (HB_6.out.trans (hb.mono HB_6.out.size))
  have HX_7 := Lib.hid (HX_6.out.on hb)
  have HL_7 := Lib.hid (HL_6.out.on hb)
  have HU_7 := Lib.hid (HU_6.out.on hb)
  have Z_7 := Lib.hid (show Blk (w6.alloc (.cells (mc Z) 31)) w6.heap.size 31 (mc Z) from Blk.new _ _ _)
  clear hb HB_6 HX_6 HL_6 HU_6
  go_wp2_with fail
  refine (HSz.out _ HL_7.out).mono ?_
  rintro e w8 ⟨rfl, hb⟩
  have HB_8 := Lib.hid (HB_7.out.trans (hb.mono HB_7.out.size))
  have HX_8 := Lib.hid (HX_7.out.on hb)
  have HL_8 := Lib.hid (HL_7.out.on hb)
  have HU_8 := Lib.hid (HU_7.out.on hb)
  have Z_8 := Lib.hid (Z_7.out.on hb)
  clear hb HB_7 HX_7 HL_7 HU_7 Z_7
  clear HSz
  have hb : Below w8.heap.size w8 (w8.alloc (.cells (mc Z) 31)) := (Below.refl _ _).alloc (Nat.le_refl _) _
  have HB_9 := Lib.hid (HB_8.out.trans (hb.mono HB_8.out.size))
  have HX_9 := Lib.hid (HX_8.out.on hb)
  have HL_9 := Lib.hid (HL_8.out.on hb)
  have HU_9 := Lib.hid (HU_8.out.on hb)
  have Z_9 := Lib.hid (Z_8.out.on hb)
  have Y_9 := Lib.hid (show Blk (w8.alloc (.cells (mc Z) 31)) w8.heap.size 31 (mc Z) from Blk.new _ _ _)
  clear hb HB_8 HX_8 HL_8 HU_8 Z_8
  obtain ⟨xZ0, xZ1, xZ2, xZ3, xZ4, xZ5⟩ := Z_9.out.six
  go_wp2_with fail
  refine (DrawSideZeros_any (A := A) (n := n) (c := c) _ HX_9.out Hn.out hbd).mono ?_
  rintro e w10 ⟨A4, q4, c4, L4, b4, rfl, hq, ho, hq7, hb⟩
  have HB_10 := Lib.hid (HB_9.out.trans (hb.mono HB_9.out.size))
  have HX_10 := Lib.hid (HX_9.out.on hb)
  have HL_10 := Lib.hid (HL_9.out.on hb)
  have HU_10 := Lib.hid (HU_9.out.on hb)
  have Z_10 := Lib.hid (Z_9.out.on hb)
  have HM_10 := Lib.hid (ho.read)
  clear hb HB_9 HX_9 HL_9 HU_9 Z_9 Y_9
  have HN4 := Lib.hid ho.noneA
  have Hq4 := Lib.hid hq
  have hr4 : q4 < 536870912 := by omega
  clear hq ho hq7
  clear xZ0 xZ1 xZ2 xZ3 xZ4 xZ5
  obtain ⟨k4, hk4⟩ : ∃ k4, elC L4 [] = k4 := ⟨_, rfl⟩
  obtain ⟨n4, hn4⟩ : ∃ n4, (thatR (fun E => sideB E b4) L4).length = n4 := ⟨_, rfl⟩
  have ek4 : (k4 != k4) = false := by simp
  have hn4300 : n4 ≤ 300 := by rw [← hn4]; exact that_len _ _
  have HIs : Hid (∀ wx, RdM wx wx.heap.size A4 L4 → Calls Tryz.prog 13 #[.slice A4 q4 c4, .bool b4] wx (RetR (thatR (fun E => sideB E b4) L4) n4 k4 wx)) := fun wx hr => (sideF_any A4 q4 c4 L4 b4 wx hr Hq4.out.symm HN4.out hr4).mono fun e w' h => (RetM.toS h).toR hn4 hk4
  have HSs : Hid (∀ wx, RdM wx wx.heap.size A4 L4 → Calls Tryz.prog 14 #[.slice A4 q4 c4, .bool b4] wx (RetR (thatR (fun E => sideB E b4) L4) n4 k4 wx)) := fun wx hr => (SpecSide_any A4 q4 c4 L4 b4 wx hr Hq4.out.symm (by omega)).mono fun e w' h => RetS.toR h hn4 hk4
  have Hn4 := Lib.hid hn4
  clear hk4 hn4
  go_wp2_with fail
  refine (HIs.out _ HM_10.out).mono ?_
  rintro e w11 ⟨A5, c5, rfl, hr, hb⟩
  have HB_11 := Lib.hid (HB_10.out.trans (hb.mono HB_10.out.size))
  have HX_11 := Lib.hid (HX_10.out.on hb)
  have HL_11 := Lib.hid (HL_10.out.on hb)
  have HU_11 := Lib.hid (HU_10.out.on hb)
  have Z_11 := Lib.hid (Z_10.out.on hb)
  have HM_11 := Lib.hid (HM_10.out.on hb)
  have Ha_11 := Lib.hid (hr)
  clear hb HB_10 HX_10 HL_10 HU_10 Z_10 HM_10
  clear hr HIs
  go_wp2_with fail
  refine (HSs.out _ HM_11.out).mono ?_
  rintro e w12 ⟨A6, c6, rfl, hr, hb⟩
  have HB_12 := Lib.hid (HB_11.out.trans (hb.mono HB_11.out.size))
  have HX_12 := Lib.hid (HX_11.out.on hb)
  have HL_12 := Lib.hid (HL_11.out.on hb)
  have HU_12 := Lib.hid (HU_11.out.on hb)
  have Z_12 := Lib.hid (Z_11.out.on hb)
  have Ha_12 := Lib.hid (Ha_11.out.on hb)
  have Hb_12 := Lib.hid (hr)
  clear hb HB_11 HX_11 HL_11 HU_11 Z_11 HM_11 Ha_11
  clear hr HSs
  go_wp2_with fail
  refine (maps9_same A5 A6 n4 c5 c6 (thatR (fun E => sideB E b4) L4) w12 Hn4.out Ha_12.out Hb_12.out (by omega)).mono ?_
  rintro e w13 ⟨rfl, hb⟩
  have HB_13 := Lib.hid (HB_12.out.trans (hb.mono HB_12.out.size))
  have HX_13 := Lib.hid (HX_12.out.on hb)
  have HL_13 := Lib.hid (HL_12.out.on hb)
  have HU_13 := Lib.hid (HU_12.out.on hb)
  have Z_13 := Lib.hid (Z_12.out.on hb)
  clear hb HB_12 HX_12 HL_12 HU_12 Z_12 Ha_12 Hb_12
  clear HN4 Hq4 hr4 Hn4 hn4300
  go_wp2_with fail
  refine (HIi.out _ HL_13.out).mono ?_
  rintro e w14 ⟨A7, c7, rfl, hr, hb⟩
  have HB_14 := Lib.hid (HB_13.out.trans (hb.mono HB_13.out.size))
  have HX_14 := Lib.hid (HX_13.out.on hb)
  have HL_14 := Lib.hid (HL_13.out.on hb)
  have HU_14 := Lib.hid (HU_13.out.on hb)
  have Z_14 := Lib.hid (Z_13.out.on hb)
  have Ha_14 := Lib.hid (hr)
  clear hb HB_13 HX_13 HL_13 HU_13 Z_13
  clear hr HIi
  go_wp2_with fail
  refine (HSi.out _ HL_14.out).mono ?_
  rintro e w15 ⟨A8, c8, rfl, hr, hb⟩
  have HB_15 := Lib.hid (HB_14.out.trans (hb.mono HB_14.out.size))
  have HX_15 := Lib.hid (HX_14.out.on hb)
  have HL_15 := Lib.hid (HL_14.out.on hb)
  have HU_15 := Lib.hid (HU_14.out.on hb)
  have Z_15 := Lib.hid (Z_14.out.on hb)
  have Ha_15 := Lib.hid (Ha_14.out.on hb)
  have Hb_15 := Lib.hid (hr)
  clear hb HB_14 HX_14 HL_14 HU_14 Z_14 Ha_14
  clear hr HSi
  go_wp2_with fail
  refine (maps9_same A7 A8 ni c7 c8 (thatR idemB L1) w15 Hni.out Ha_15.out Hb_15.out (by omega)).mono ?_
  rintro e w16 ⟨rfl, hb⟩
  have HB_16 := Lib.hid (HB_15.out.trans (hb.mono HB_15.out.size))
  have HX_16 := Lib.hid (HX_15.out.on hb)
  have HL_16 := Lib.hid (HL_15.out.on hb)
  have HU_16 := Lib.hid (HU_15.out.on hb)
  have Z_16 := Lib.hid (Z_15.out.on hb)
  clear hb HB_15 HX_15 HL_15 HU_15 Z_15 Ha_15 Hb_15
  go_wp2_with fail
  refine (HIc.out _ HL_16.out).mono ?_
  rintro e w17 ⟨A9, c9, rfl, hr, hb⟩
  have HB_17 := Lib.hid (HB_16.out.trans (hb.mono HB_16.out.size))
  have HX_17 := Lib.hid (HX_16.out.on hb)
  have HL_17 := Lib.hid (HL_16.out.on hb)
  have HU_17 := Lib.hid (HU_16.out.on hb)
  have Z_17 := Lib.hid (Z_16.out.on hb)
  have Ha_17 := Lib.hid (hr)
  clear hb HB_16 HX_16 HL_16 HU_16 Z_16
  clear hr HIc
  go_wp2_with fail
  refine (HSc.out _ HL_17.out).mono ?_
  rintro e w18 ⟨A10, c10, rfl, hr, hb⟩
  have HB_18 := Lib.hid (HB_17.out.trans (hb.mono HB_17.out.size))
  have HX_18 := Lib.hid (HX_17.out.on hb)
  have HL_18 := Lib.hid (HL_17.out.on hb)
  have HU_18 := Lib.hid (HU_17.out.on hb)
  have Z_18 := Lib.hid (Z_17.out.on hb)
  have Ha_18 := Lib.hid (Ha_17.out.on hb)
  have Hb_18 := Lib.hid (hr)
  clear hb HB_17 HX_17 HL_17 HU_17 Z_17 Ha_17
  clear hr HSc
  go_wp2_with fail
  refine (maps9_same A9 A10 nz c9 c10 (thatR centB L1) w18 Hnz.out Ha_18.out Hb_18.out (by omega)).mono ?_
  rintro e w19 ⟨rfl, hb⟩
  have HB_19 := Lib.hid (HB_18.out.trans (hb.mono HB_18.out.size))
  have HX_19 := Lib.hid (HX_18.out.on hb)
  have HL_19 := Lib.hid (HL_18.out.on hb)
  have HU_19 := Lib.hid (HU_18.out.on hb)
  have Z_19 := Lib.hid (Z_18.out.on hb)
  clear hb HB_18 HX_18 HL_18 HU_18 Z_18 Ha_18 Hb_18
  go_wp2_with fail
  refine (DrawIsCommutative_any (A := A) (n := n) (c := c) _ HX_19.out Hn.out hbd).mono ?_
  rintro e w20 ⟨A11, q11, c11, L11, rfl, hq, ho, hq7, hb⟩
  have HB_20 := Lib.hid (HB_19.out.trans (hb.mono HB_19.out.size))
  have HX_20 := Lib.hid (HX_19.out.on hb)
  have HL_20 := Lib.hid (HL_19.out.on hb)
  have HU_20 := Lib.hid (HU_19.out.on hb)
  have Z_20 := Lib.hid (Z_19.out.on hb)
  have HT_20 := Lib.hid (ho.read)
  clear hb HB_19 HX_19 HL_19 HU_19 Z_19
  have HN11 := Lib.hid ho.noneA
  have Hq11 := Lib.hid hq
  have hr11 : q11 < 536870912 := by omega
  clear hq ho hq7
  obtain ⟨k6, hk6⟩ : ∃ k6, elC L11 [] = k6 := ⟨_, rfl⟩
  obtain ⟨b6, hb6⟩ : ∃ b6, comR L11 = b6 := ⟨_, rfl⟩
  have ek6 : (k6 != k6) = false := by simp
  have eb6 : (b6 != b6) = false := by simp
  have HIm : Hid (∀ wx, RdM wx wx.heap.size A11 L11 → Calls Tryz.prog 20 #[.slice A11 q11 c11] wx fun e w' => e = .returned (.tuple #[.bool b6, I k6]) ∧ Below wx.heap.size wx w') := fun wx hr => by have h := ImplCom_any A11 q11 c11 L11 wx hr Hq11.out.symm HN11.out hr11; rw [hk6, hb6] at h; exact h
  have HSm : Hid (∀ wx, RdM wx wx.heap.size A11 L11 → Calls Tryz.prog 21 #[.slice A11 q11 c11] wx fun e w' => e = .returned (.tuple #[.bool b6, I k6]) ∧ Below wx.heap.size wx w') := fun wx hr => by have h := SpecCom_any A11 q11 c11 L11 wx hr Hq11.out.symm (by omega); rw [hk6, hb6] at h; exact h
  have Hk6 := Lib.hid hk6
  have Hb6 := Lib.hid hb6
  clear hk6 hb6
  go_wp2_with fail
  refine (HIm.out _ HT_20.out).mono ?_
  rintro e w21 ⟨rfl, hb⟩
  have HB_21 := Lib.hid (HB_20.out.trans (hb.mono HB_20.out.size))
  have HX_21 := Lib.hid (HX_20.out.on hb)
  have HL_21 := Lib.hid (HL_20.out.on hb)
  have HU_21 := Lib.hid (HU_20.out.on hb)
  have Z_21 := Lib.hid (Z_20.out.on hb)
  have HT_21 := Lib.hid (HT_20.out.on hb)
  clear hb HB_20 HX_20 HL_20 HU_20 Z_20 HT_20
  clear HIm
  go_wp2_with fail
  refine (HSm.out _ HT_21.out).mono ?_
  rintro e w22 ⟨rfl, hb⟩
  have HB_22 := Lib.hid (HB_21.out.trans (hb.mono HB_21.out.size))
  have HX_22 := Lib.hid (HX_21.out.on hb)
  have HL_22 := Lib.hid (HL_21.out.on hb)
  have HU_22 := Lib.hid (HU_21.out.on hb)
  have Z_22 := Lib.hid (Z_21.out.on hb)
  have HT_22 := Lib.hid (HT_21.out.on hb)
  clear hb HB_21 HX_21 HL_21 HU_21 Z_21 HT_21
  clear HSm
  go_wp2_with fail
  refine (DrawLeastGenerating_any (A := A) (n := n) (c := c) _ HX_22.out Hn.out hbd).mono ?_
  rintro e w23 ⟨A12, q12, c12, L12, rfl, hq, ho, hq7, hb⟩
  have HB_23 := Lib.hid (HB_22.out.trans (hb.mono HB_22.out.size))
  have HX_23 := Lib.hid (HX_22.out.on hb)
  have HL_23 := Lib.hid (HL_22.out.on hb)
  have HU_23 := Lib.hid (HU_22.out.on hb)
  have Z_23 := Lib.hid (Z_22.out.on hb)
  have HT_23 := Lib.hid (HT_22.out.on hb)
  have HF_23 := Lib.hid (ho.read)
  clear hb HB_22 HX_22 HL_22 HU_22 Z_22 HT_22
  have HN12 := Lib.hid ho.noneA
  have Hq12 := Lib.hid hq
  have hr12 : q12 < 536870912 := by omega
  clear hq ho hq7
  obtain ⟨k7, hk7⟩ : ∃ k7, monC L12 [] = k7 := ⟨_, rfl⟩
  obtain ⟨nl, hnl⟩ : ∃ nl, (lgR L12).length = nl := ⟨_, rfl⟩
  have ek7 : (k7 != k7) = false := by simp
  have hnl12 : nl ≤ 12 := by rw [← hnl]; exact lgR_len _
  have HIg : Hid (∀ wx, RdM wx wx.heap.size A12 L12 → Calls Tryz.prog 23 #[.slice A12 q12 c12] wx (RetQ (lgR L12) nl k7 wx)) := fun wx hr => (ImplLG_any A12 q12 c12 L12 wx hr Hq12.out.symm HN12.out hr12).mono fun e w' h => (RetI.toS h).toQ hnl hk7
  have HSg : Hid (∀ wx, RdM wx wx.heap.size A12 L12 → Calls Tryz.prog 24 #[.slice A12 q12 c12] wx (RetQ (lgR L12) nl k7 wx)) := fun wx hr => (SpecLG_any A12 q12 c12 L12 wx hr Hq12.out.symm (by omega)).mono fun e w' h => RetSI.toQ h hnl hk7
  have Hk7 := Lib.hid hk7
  have Hnl := Lib.hid hnl
  clear hk7 hnl
  go_wp2_with fail
  refine (HIg.out _ HF_23.out).mono ?_
  rintro e w24 ⟨A13, c13, rfl, hr, hb⟩
  have HB_24 := Lib.hid (HB_23.out.trans (hb.mono HB_23.out.size))
  have HX_24 := Lib.hid (HX_23.out.on hb)
  have HL_24 := Lib.hid (HL_23.out.on hb)
  have HU_24 := Lib.hid (HU_23.out.on hb)
  have Z_24 := Lib.hid (Z_23.out.on hb)
  have HT_24 := Lib.hid (HT_23.out.on hb)
  have HF_24 := Lib.hid (HF_23.out.on hb)
  have HE_24 := Lib.hid (hr)
  clear hb HB_23 HX_23 HL_23 HU_23 Z_23 HT_23 HF_23
  clear hr HIg
  go_wp2_with fail
  refine (HSg.out _ HF_24.out).mono ?_
  rintro e w25 ⟨A14, c14, rfl, hr, hb⟩
  have HB_25 := Lib.hid (HB_24.out.trans (hb.mono HB_24.out.size))
  have HX_25 := Lib.hid (HX_24.out.on hb)
  have HL_25 := Lib.hid (HL_24.out.on hb)
  have HU_25 := Lib.hid (HU_24.out.on hb)
  have Z_25 := Lib.hid (Z_24.out.on hb)
  have HT_25 := Lib.hid (HT_24.out.on hb)
  have HF_25 := Lib.hid (HF_24.out.on hb)
  have HE_25 := Lib.hid (HE_24.out.on hb)
  have Hb_25 := Lib.hid (hr)
  clear hb HB_24 HX_24 HL_24 HU_24 Z_24 HT_24 HF_24 HE_24
  clear hr HSg
  go_wp2_with fail
  refine (likeInts_same A13 A14 nl c13 c14 (lgR L12) w25 Hnl.out HE_25.out Hb_25.out (by omega)).mono ?_
  rintro e w26 ⟨rfl, hb⟩
  have HB_26 := Lib.hid (HB_25.out.trans (hb.mono HB_25.out.size))
  have HX_26 := Lib.hid (HX_25.out.on hb)
  have HL_26 := Lib.hid (HL_25.out.on hb)
  have HU_26 := Lib.hid (HU_25.out.on hb)
  have Z_26 := Lib.hid (Z_25.out.on hb)
  have HT_26 := Lib.hid (HT_25.out.on hb)
  have HF_26 := Lib.hid (HF_25.out.on hb)
  have HE_26 := Lib.hid (HE_25.out.on hb)
  clear hb HB_25 HX_25 HL_25 HU_25 Z_25 HT_25 HF_25 HE_25 Hb_25
  go_wp2_with fail
  refine (DrawIsElement_any (A := A) (n := n) (c := c) _ HX_26.out Hn.out hbd).mono ?_
  rintro e w27 ⟨A15, q15, c15, L15, f, rfl, hq, ho, hq7, hb⟩
  have HB_27 := Lib.hid (HB_26.out.trans (hb.mono HB_26.out.size))
  have HL_27 := Lib.hid (HL_26.out.on hb)
  have HU_27 := Lib.hid (HU_26.out.on hb)
  have Z_27 := Lib.hid (Z_26.out.on hb)
  have HT_27 := Lib.hid (HT_26.out.on hb)
  have HF_27 := Lib.hid (HF_26.out.on hb)
  have HE_27 := Lib.hid (HE_26.out.on hb)
  have HM_27 := Lib.hid (ho.read)
  clear hb HB_26 HX_26 HL_26 HU_26 Z_26 HT_26 HF_26 HE_26
  have HN15 := Lib.hid ho.noneA
  have Hq15 := Lib.hid hq
  have hr15 : q15 < 536870912 := by omega
  clear hq ho hq7
  obtain ⟨k8, hk8⟩ : ∃ k8, elC L15 [f] = k8 := ⟨_, rfl⟩
  obtain ⟨b8, hb8⟩ : ∃ b8, isElB L15 f = b8 := ⟨_, rfl⟩
  have ek8 : (k8 != k8) = false := by simp
  have eb8 : (b8 != b8) = false := by simp
  have HIe : Hid (∀ wx, RdM wx wx.heap.size A15 L15 → Calls Tryz.prog 27 #[.slice A15 q15 c15, .agg (mc f)] wx fun e w' => e = .returned (.tuple #[.bool b8, I k8]) ∧ Below wx.heap.size wx w') := fun wx hr => by have h := ImplIsElement_any A15 q15 c15 L15 f wx hr Hq15.out.symm HN15.out hr15; rw [hk8, hb8] at h; exact h
  have HSe : Hid (∀ wx, RdM wx wx.heap.size A15 L15 → Calls Tryz.prog 28 #[.slice A15 q15 c15, .agg (mc f)] wx fun e w' => e = .returned (.tuple #[.bool b8, I k8]) ∧ Below wx.heap.size wx w') := fun wx hr => by have h := SpecIsElement_any A15 q15 c15 L15 f wx hr Hq15.out.symm (by omega); rw [hk8, hb8] at h; exact h
  clear hk8 hb8
  have hb : Below w27.heap.size w27 (w27.alloc (.cells (mc f) 31)) := (Below.refl _ _).alloc (Nat.le_refl _) _
  have HB_28 := Lib.hid (HB_27.out.trans (hb.mono HB_27.out.size))
  have HL_28 := Lib.hid (HL_27.out.on hb)
  have HU_28 := Lib.hid (HU_27.out.on hb)
  have Z_28 := Lib.hid (Z_27.out.on hb)
  have HT_28 := Lib.hid (HT_27.out.on hb)
  have HF_28 := Lib.hid (HF_27.out.on hb)
  have HE_28 := Lib.hid (HE_27.out.on hb)
  have HM_28 := Lib.hid (HM_27.out.on hb)
  have Y_28 := Lib.hid (show Blk (w27.alloc (.cells (mc f) 31)) w27.heap.size 31 (mc f) from Blk.new _ _ _)
  clear hb HB_27 HL_27 HU_27 Z_27 HT_27 HF_27 HE_27 HM_27
  obtain ⟨xY0, xY1, xY2, xY3, xY4, xY5⟩ := Y_28.out.six
  go_wp2_with fail
  refine (HIe.out _ HM_28.out).mono ?_
  rintro e w29 ⟨rfl, hb⟩
  have HB_29 := Lib.hid (HB_28.out.trans (hb.mono HB_28.out.size))
  have HL_29 := Lib.hid (HL_28.out.on hb)
  have HU_29 := Lib.hid (HU_28.out.on hb)
  have Z_29 := Lib.hid (Z_28.out.on hb)
  have HT_29 := Lib.hid (HT_28.out.on hb)
  have HF_29 := Lib.hid (HF_28.out.on hb)
  have HE_29 := Lib.hid (HE_28.out.on hb)
  have HM_29 := Lib.hid (HM_28.out.on hb)
  have Y_29 := Lib.hid (Y_28.out.on hb)
  clear hb HB_28 HL_28 HU_28 Z_28 HT_28 HF_28 HE_28 HM_28 Y_28
  clear HIe
  clear xY0 xY1 xY2 xY3 xY4 xY5
  obtain ⟨xY0, xY1, xY2, xY3, xY4, xY5⟩ := Y_29.out.six
  go_wp2_with fail
  refine (HSe.out _ HM_29.out).mono ?_
  rintro e w30 ⟨rfl, hb⟩
  have HB_30 := Lib.hid (HB_29.out.trans (hb.mono HB_29.out.size))
  have HL_30 := Lib.hid (HL_29.out.on hb)
  have HU_30 := Lib.hid (HU_29.out.on hb)
  have Z_30 := Lib.hid (Z_29.out.on hb)
  have HT_30 := Lib.hid (HT_29.out.on hb)
  have HF_30 := Lib.hid (HF_29.out.on hb)
  have HE_30 := Lib.hid (HE_29.out.on hb)
  clear hb HB_29 HL_29 HU_29 Z_29 HT_29 HF_29 HE_29 HM_29 Y_29
  clear HSe HN15 Hq15 hr15
  clear xY0 xY1 xY2 xY3 xY4 xY5
  go_upto_region 40 with fail
  obtain ⟨bb, hbb⟩ : ∃ bb, bb = ((k7 == 0) && decide (0 < nl)) := ⟨_, rfl⟩
  have Hbb := Lib.hid hbb
  clear hbb
  go_cut [237] from 394 (fun b wx => b = .bool bb ∧ Below w.heap.size w wx ∧ RdM wx wx.heap.size A1 L1 ∧ RdM wx wx.heap.size A2 (thatR unitB L1) ∧ Blk wx w6.heap.size 31 (mc Z) ∧ RdM wx wx.heap.size A11 L11 ∧ RdM wx wx.heap.size A12 L12 ∧ RdI wx wx.heap.size A13 (lgR L12))
  case first =>
    by_cases h0 : k7 = 0
    · have g0 : (k7 == 0) = true := by simpa using h0
      clear h0
      by_cases h1 : 0 < nl
      · have h1z : (0 : Int) < (nl : Int) := by omega
        go_wp2_with fail
        go_meet
        exact ⟨by rw [Hbb.out, g0, decide_eq_true h1] <;> rfl, HB_30.out, HL_30.out, HU_30.out, Z_30.out, HT_30.out, HF_30.out, HE_30.out⟩
      · have h1z : ¬ (0 : Int) < (nl : Int) := by omega
        go_wp2_with fail
        go_meet
        exact ⟨by rw [Hbb.out, g0, decide_eq_false h1] <;> rfl, HB_30.out, HL_30.out, HU_30.out, Z_30.out, HT_30.out, HF_30.out, HE_30.out⟩
    · have g0 : (k7 == 0) = false := by simpa using h0
      clear h0
      go_wp2_with fail
      go_meet
      exact ⟨by rw [Hbb.out, g0] <;> rfl, HB_30.out, HL_30.out, HU_30.out, Z_30.out, HT_30.out, HF_30.out, HE_30.out⟩
  case rest =>
    clear HB_30 HL_30 HU_30 Z_30 HT_30 HF_30 HE_30 ek1 ekz ek6 eb6 ek7 ek8 eb8 ek4
    obtain ⟨rfl, hHB, hHL, hHU, hZ, hHT, hHF, hHE⟩ := hcut
    have HB_r1 := Lib.hid hHB
    have HL_r1 := Lib.hid hHL
    have HU_r1 := Lib.hid hHU
    have Z_r1 := Lib.hid hZ
    have HT_r1 := Lib.hid hHT
    have HF_r1 := Lib.hid hHF
    have HE_r1 := Lib.hid hHE
    clear hHB hHL hHU hZ hHT hHF hHE
    go_upto_if 237 with fail
    go_cut [237] from 394 (fun _ wx => Below w.heap.size w wx ∧ RdM wx wx.heap.size A1 L1 ∧ RdM wx wx.heap.size A2 (thatR unitB L1) ∧ Blk wx w6.heap.size 31 (mc Z) ∧ RdM wx wx.heap.size A11 L11)
    case first =>
      cases bb
      case false =>
        go_wp2_with fail
        go_meet
        exact ⟨HB_r1.out, HL_r1.out, HU_r1.out, Z_r1.out, HT_r1.out⟩
      case true =>
        have hbb := Hbb.out.symm
        simp only [Bool.and_eq_true, beq_iff_eq, decide_eq_true_eq] at hbb
        obtain ⟨h0, hnl0⟩ := hbb
        obtain ⟨l1, l2, l3, l4⟩ := least_ok (Hk7.out.trans h0)
        obtain ⟨m1, m2⟩ := l4 (by rw [Hnl.out]; exact hnl0)
        obtain ⟨S, hS⟩ : ∃ S, lgR L12 = S := ⟨_, rfl⟩
        have HEs : Hid (RdI wc wc.heap.size A13 S) := by have := HE_r1.out; rw [hS] at this; exact this
        have HnS : Hid (S.length = nl) := by have := Hnl.out; rw [hS] at this; exact this
        rw [hS] at l1 m1 m2
        have Hl1 : Hid (∀ k, k < nl → ∃ j : Nat, gi S k = j ∧ j < q12) := fun k hk => by
          have hm : gi S k ∈ S := by rw [gi_eq (by rw [HnS.out]; exact hk)]; exact List.getElem_mem _
          have := l1 _ hm
          have h12 := Hq12.out
          exact ⟨(gi S k).toNat, by omega, by omega⟩
        obtain ⟨NE, hNE⟩ : ∃ NE, (elR L12 []).length = NE := ⟨_, rfl⟩
        rw [hNE] at m2
        have ee : ((NE : Int) != (NE : Int)) = false := by simp
        have HSi : Hid (∀ wx A' c', RdM wx wx.heap.size A' (selM L12 S) → (A' = none → nl = 0 ∧ c' = 0) → Calls Tryz.prog 29 #[.slice A' nl c'] wx fun e w' => e = .returned (.tuple #[I NE, I 0]) ∧ Below wx.heap.size wx w') := fun wx A' c' hr hA => by have h := ImplSizeOf_any A' nl c' (selM L12 S) wx hr (by rw [selM_length]; exact HnS.out) hA (by omega); rw [m1, m2] at h; exact h
        have HSf : Hid (∀ wx, RdM wx wx.heap.size A12 L12 → Calls Tryz.prog 29 #[.slice A12 q12 c12] wx fun e w' => e = .returned (.tuple #[I NE, I 0]) ∧ Below wx.heap.size wx w') := fun wx hr => by have h := ImplSizeOf_any A12 q12 c12 L12 wx hr Hq12.out.symm HN12.out hr12; rw [hNE, l3] at h; exact h
        clear HE_r1 Hbb Hk7 Hnl h0 hnl0 l1 l2 l3 l4 m1 m2 hS hNE
        go_wp2_with fail
        go_loopw [42, 43] (fun v t wr => ∃ (k : Nat) (A' : Option Addr) (c' : Nat), v = .slice A' k c' ∧ t = .int .i64 k ∧ k ≤ nl ∧ OwM 31 wr wc.heap.size (.slice A' k c') (selM L12 (S.take k)) ∧ Below wc.heap.size wc wr) (fun _ t _ => nl - (intOf t).toNat)
        case atStart => exact ⟨0, _, _, rfl, rfl, by omega, OwM.made (Nat.le_refl _), by (repeat (first | with_reducible assumption | with_reducible exact Below.refl _ _ | with_reducible refine Below.setCell ?_ (by first | omega | (simp <;> omega)) _ | with_reducible refine Below.alloc ?_ (by first | omega | (simp <;> omega)) _ | with_reducible refine Below.drew ?_ | with_reducible refine Below.drewN ?_ _))⟩
        case round =>
          obtain ⟨k, A', c', rfl, rfl, hk, ho, hbl⟩ := hrel
          have Ho := Lib.hid ho
          have Hbl := Lib.hid hbl
          clear ho
          by_cases hlt : k < nl
          · have k0 : (0 : Int) ≤ (k : Int) := by omega
            have k1' : (k : Int) < (nl : Int) := by omega
            obtain ⟨j, hj, hjq⟩ := Hl1.out k hlt
            have j0 : (0 : Int) ≤ (j : Int) := by omega
            have j1 : (j : Int) < (q12 : Int) := by omega
            obtain ⟨b13, o13, rfl, _, s13⟩ := RdI.at_ (HEs.out.on hbl) (k := k) (by rw [HnS.out]; exact hlt)
            rw [hj] at s13
            obtain ⟨b12, o12, rfl, _, y0, y1, y2, y3, y4, y5⟩ := RdM.at_ (HF_r1.out.on hbl) (k := j) (by rw [← Hq12.out]; exact hjq)
            have hsel : selM L12 (S.take (k + 1)) = selM L12 (S.take k) ++ [gm L12 j] := by rw [selM_take L12 S (by rw [HnS.out]; exact hlt), hj]; rfl
            have hlen : (selM L12 (S.take k)).length = k := by rw [selM_length, List.length_take, HnS.out]; omega
            obtain ⟨m, hm⟩ : ∃ m, m = gm L12 j := ⟨_, rfl⟩
            rw [← hm] at y0 y1 y2 y3 y4 y5 hsel
            have Hsel := Lib.hid hsel
            have Hlen := Lib.hid hlen
            have hz := hbl.size
            clear hm hsel hlen hj hbl
            go_wp2_with (at_builtin; refine wpList_pushM rfl (.tmp 245) (.tmp 253) rfl wc.heap.size (.slice A' k c') (selM L12 (S.take k)) rfl (OwM.alloc Ho.out _) k Hlen.out wr.heap.size 1 m rfl (Blk.six (Blk.new _ _ _)) (by omega) (by simp; omega) (wr.heap.size + 1) (by simp) ?_; intro g' cap w9 ho' hgr hg' hlt'; have Ho9 := Lib.hid ho'; have Hb9 := Lib.hid ((Hbl.out.alloc hz (.cells (mc m) 31)).grown hgr (by simp; omega) (fun q hq => ((OwM.alloc Ho.out (.cells (mc m) 31)).lt q hq).1)); clear ho' hgr hg' hlt')
            go_roundw
            case rel => exact ⟨k + 1, some ⟨g', 0, none⟩, cap, rfl, by go_num, by omega, by rw [Hsel.out]; exact Ho9.out, Hb9.out⟩
            case measure => simp [intOf]; omega
          · obtain rfl : k = nl := by omega
            have hok : OwM 31 wr wc.heap.size (.slice A' k c') (selM L12 S) := by have := Ho.out; rw [List.take_of_length_le (by rw [HnS.out]; exact Nat.le_refl _)] at this; exact this
            have HOk := Lib.hid hok
            have HR1 := Lib.hid (hok.read)
            clear hok hbl
            go_wp2_with fail
            refine (HSi.out wr A' c' HR1.out HOk.out.noneA).mono ?_
            rintro e w1' ⟨rfl, hb⟩
            have Hb1 := Lib.hid (Hbl.out.trans (hb.mono Hbl.out.size))
            clear hb
            go_wp2_with fail
            refine (HSf.out w1' (HF_r1.out.on Hb1.out)).mono ?_
            rintro e w2' ⟨rfl, hb⟩
            have Hb2 := Lib.hid (Hb1.out.trans (hb.mono Hb1.out.size))
            clear hb
            go_wp2_with fail
            go_meet
            exact ⟨HB_r1.out.trans (Hb2.out.mono HB_r1.out.size), HL_r1.out.on Hb2.out, HU_r1.out.on Hb2.out, Z_r1.out.on Hb2.out, HT_r1.out.on Hb2.out⟩
    case rest =>
      clear HB_r1 HL_r1 HU_r1 Z_r1 HT_r1 HF_r1 HE_r1 Hbb Hk7 Hnl
      obtain ⟨hHB, hHL, hHU, hZ, hHT⟩ := hcut
      have HB_r2 := Lib.hid hHB
      have HL_r2 := Lib.hid hHL
      have HU_r2 := Lib.hid hHU
      have Z_r2 := Lib.hid hZ
      have HT_r2 := Lib.hid hHT
      clear hHB hHL hHU hZ hHT
      go_upto_if 277 with fail
      go_cut [277] from 394 (fun _ wx => Below w.heap.size w wx ∧ RdM wx wx.heap.size A1 L1 ∧ RdM wx wx.heap.size A2 (thatR unitB L1) ∧ Blk wx w6.heap.size 31 (mc Z))
      case first =>
        by_cases h0 : k6 = 0
        · have g0 : (k6 == 0) = true := by simpa using h0
          have hc := Hk6.out.trans h0
          have hcm := com_centre hc
          rw [Hb6.out] at hcm
          obtain ⟨NE, hNE⟩ : ∃ NE, (elR L11 []).length = NE := ⟨_, rfl⟩
          obtain ⟨nc, hnc⟩ : ∃ nc, (thatR centB L11).length = nc := ⟨_, rfl⟩
          rw [hNE, hnc] at hcm
          have HS1 : Hid (∀ wx, RdM wx wx.heap.size A11 L11 → Calls Tryz.prog 29 #[.slice A11 q11 c11] wx fun e w' => e = .returned (.tuple #[I NE, I 0]) ∧ Below wx.heap.size wx w') := fun wx hr => by have h := ImplSizeOf_any A11 q11 c11 L11 wx hr Hq11.out.symm HN11.out hr11; rw [hNE, hc] at h; exact h
          have HC1 : Hid (∀ wx, RdM wx wx.heap.size A11 L11 → Calls Tryz.prog 17 #[.slice A11 q11 c11] wx (RetR (thatR centB L11) nc 0 wx)) := fun wx hr => (centreF_any A11 q11 c11 L11 wx hr Hq11.out.symm HN11.out hr11).mono fun e w' h => (RetM.toS h).toR hnc hc
          clear h0 hc hNE hnc
          by_cases hne : nc = NE
          · have hb6 : b6 = true := by rw [hcm]; exact decide_eq_true hne
            clear hcm
            subst hne
            subst hb6
            go_wp2_with fail
            refine (HS1.out _ HT_r2.out).mono ?_
            rintro e w31 ⟨rfl, hb⟩
            have HB_31 := Lib.hid (HB_r2.out.trans (hb.mono HB_r2.out.size))
            have HL_31 := Lib.hid (HL_r2.out.on hb)
            have HU_31 := Lib.hid (HU_r2.out.on hb)
            have Z_31 := Lib.hid (Z_r2.out.on hb)
            have HT_31 := Lib.hid (HT_r2.out.on hb)
            clear hb HB_r2 HL_r2 HU_r2 Z_r2 HT_r2
            clear HS1
            go_wp2_with fail
            refine (HC1.out _ HT_31.out).mono ?_
            rintro e w32 ⟨A20, c20, rfl, hr, hb⟩
            have HB_32 := Lib.hid (HB_31.out.trans (hb.mono HB_31.out.size))
            have HL_32 := Lib.hid (HL_31.out.on hb)
            have HU_32 := Lib.hid (HU_31.out.on hb)
            have Z_32 := Lib.hid (Z_31.out.on hb)
            have HT_32 := Lib.hid (HT_31.out.on hb)
            clear hb HB_31 HL_31 HU_31 Z_31 HT_31
            clear hr HC1
            go_wp2_with fail
            go_meet
            exact ⟨HB_32.out, HL_32.out, HU_32.out, Z_32.out⟩
          · have hb6 : b6 = false := by rw [hcm]; exact decide_eq_false hne
            have hnz : ¬ ((nc : Int) = (NE : Int)) := fun e => hne (by omega)
            have hnb : ((nc : Int) == (NE : Int)) = false := beq_eq_false_iff_ne.2 hnz
            clear hcm
            subst hb6
            go_wp2_with fail
            refine (HS1.out _ HT_r2.out).mono ?_
            rintro e w31 ⟨rfl, hb⟩
            have HB_31 := Lib.hid (HB_r2.out.trans (hb.mono HB_r2.out.size))
            have HL_31 := Lib.hid (HL_r2.out.on hb)
            have HU_31 := Lib.hid (HU_r2.out.on hb)
            have Z_31 := Lib.hid (Z_r2.out.on hb)
            have HT_31 := Lib.hid (HT_r2.out.on hb)
            clear hb HB_r2 HL_r2 HU_r2 Z_r2 HT_r2
            clear HS1
            go_wp2_with fail
            refine (HC1.out _ HT_31.out).mono ?_
            rintro e w32 ⟨A20, c20, rfl, hr, hb⟩
            have HB_32 := Lib.hid (HB_31.out.trans (hb.mono HB_31.out.size))
            have HL_32 := Lib.hid (HL_31.out.on hb)
            have HU_32 := Lib.hid (HU_31.out.on hb)
            have Z_32 := Lib.hid (Z_31.out.on hb)
            have HT_32 := Lib.hid (HT_31.out.on hb)
            clear hb HB_31 HL_31 HU_31 Z_31 HT_31
            clear hr HC1
            go_wp2_with fail
            go_meet
            exact ⟨HB_32.out, HL_32.out, HU_32.out, Z_32.out⟩
        · have g0 : (k6 == 0) = false := by simpa using h0
          clear h0
          go_wp2_with fail
          go_meet
          exact ⟨HB_r2.out, HL_r2.out, HU_r2.out, Z_r2.out⟩
      case rest =>
        clear HB_r2 HL_r2 HU_r2 Z_r2 HT_r2 Hk6 Hb6
        obtain ⟨hHB, hHL, hHU, hZ⟩ := hcut
        have HB_r3 := Lib.hid hHB
        have HL_r3 := Lib.hid hHL
        have HU_r3 := Lib.hid hHU
        have Z_r3 := Lib.hid hZ
        clear hHB hHL hHU hZ
        by_cases h0 : k1 = 0
        · have g0 : (k1 == 0) = true := by simpa using h0
          have g1 : (k1 != 0) = false := by simpa using h0
          obtain ⟨hun, hun0⟩ := units_ok (Hk1.out.trans h0)
          have hi0 := idems_pos (Hk1.out.trans h0)
          have hc0 := centre_pos (Hk1.out.trans h0)
          rw [Hnu.out] at hun0
          rw [Hni.out] at hi0
          rw [Hnz.out] at hc0
          obtain ⟨E1, ps1, hE1⟩ := elC_el (Hk1.out.trans h0)
          have hq1 : 0 < q1 := by rw [Hq1.out]; exact hE1.n1
          have z1 : (0 : Int) < (nu : Int) := by omega
          have z2 : (0 : Int) < (ni : Int) := by omega
          have z3 : (0 : Int) < (nz : Int) := by omega
          have z4 : (0 : Int) < (q1 : Int) := by omega
          have Hun := Lib.hid hun
          obtain ⟨pp, hpp⟩ : ∃ pp, (gm L1 0).p = pp := ⟨_, rfl⟩
          have Hpp := Lib.hid hpp
          have HGen : Hid (kz = 0 → ∀ g ∈ L1, codeLike Z g = 0 ∧ codeLike g Z = 0 ∧ mulR Z g = Z ∧ mulR g Z = Z) := fun hz0 g hg => by
            obtain ⟨v1, v2, v3⟩ := zero_ok (Hkz.out.trans hz0)
            rw [HZ.out] at v1 v2 v3
            obtain ⟨⟨v4, v5⟩, v6, v7⟩ := v3 g hg
            have a1 : like Z g = true := like_iff.2 ⟨v1, v4, by rw [v2, v5]⟩
            have a2 : like g Z = true := like_iff.2 ⟨v4, v1, by rw [v2, v5]⟩
            exact ⟨(codeLike_like _ _).1 a1, (codeLike_like _ _).1 a2, by unfold mulR; rw [if_pos a1, v6], by unfold mulR; rw [if_pos a2, v7]⟩
          clear h0 hun hE1 hpp Hk1 Hni Hnz HZ
          go_wp2_with fail
          go_loopw [52] (fun i wr => ∃ k : Nat, k ≤ nu ∧ i = .int .i64 k ∧ Below wc.heap.size wc wr) (fun i _ => nu - (intOf i).toNat)
          case atStart => exact ⟨0, by omega, rfl, Below.refl _ _⟩
          case round =>
            obtain ⟨i, hi, rfl, hbi⟩ := hrel
            have Hbi := Lib.hid hbi
            by_cases hlt : i < nu
            · have i0 : (0 : Int) ≤ (i : Int) := by omega
              have i1 : (i : Int) < (nu : Int) := by omega
              obtain ⟨b2, o2, rfl, _, s0, s1, s2, s3, s4, s5⟩ := RdM.at_ (HU_r3.out.on hbi) (k := i) (by rw [Hnu.out]; exact hlt)
              obtain ⟨u, hu⟩ : ∃ u, u = gm (thatR unitB L1) i := ⟨_, rfl⟩
              rw [← hu] at s0 s1 s2 s3 s4 s5
              have hum : u ∈ thatR unitB L1 := by rw [hu, gm_eq (by rw [Hnu.out]; exact hlt)]; exact List.getElem_mem _
              obtain ⟨vu, hru⟩ := Hun.out u hum
              rw [Hpp.out] at hru
              have mu := (isMap_iff u).2 vu
              have HRk : Hid (∀ wx, Calls Tryz.prog 30 #[.agg (mc u)] wx fun e w' => e = .returned (.tuple #[I pp, I 0]) ∧ Below wx.heap.size wx w') := fun wx => by have h := ImplRank_any u wx; rw [rkR_good mu, hru, mu] at h; exact h
              clear hbi hu hum vu hru mu
              go_wp2_with fail
              refine (HRk.out wr).mono ?_
              rintro e w1' ⟨rfl, hb⟩
              have Hb1 := Lib.hid (Hbi.out.trans (hb.mono Hbi.out.size))
              clear hb HRk s0 s1 s2 s3 s4 s5
              obtain ⟨b1, o1, rfl, _, p0, _⟩ := RdM.at_ (HL_r3.out.on Hb1.out) (k := 0) (by rw [← Hq1.out]; exact hq1)
              rw [Hpp.out] at p0
              simp only [Nat.zero_mul, Nat.add_zero] at p0
              have epp : (pp != pp) = false := by simp
              go_wp2_with fail
              go_roundw
              case rel => exact ⟨i + 1, by omega, by go_num, Hb1.out⟩
              case measure => simp [intOf]; omega
            · obtain rfl : i = nu := by omega
              clear hbi
              by_cases hz0 : kz = 0
              · have y1 : (kz == 0) = true := by simpa using hz0
                have hgen := HGen.out hz0
                have Hgen := Lib.hid hgen
                clear hz0 hgen HGen Hkz
                go_wp2_with fail
                go_loopw [55] (fun j wq => ∃ k : Nat, k ≤ q1 ∧ j = .int .i64 k ∧ Below wc.heap.size wc wq) (fun j _ => q1 - (intOf j).toNat)
                case atStart => exact ⟨0, by omega, rfl, Hbi.out⟩
                case round =>
                  obtain ⟨k, hk, rfl, hbk⟩ := hrel
                  have Hbk := Lib.hid hbk
                  clear Hbi
                  by_cases hkq : k < q1
                  · have k0 : (0 : Int) ≤ (k : Int) := by omega
                    have k1' : (k : Int) < (q1 : Int) := by omega
                    obtain ⟨b1, o1, rfl, hb1, sg⟩ := RdM.at_ (HL_r3.out.on hbk) (k := k) (by rw [← Hq1.out]; exact hkq)
                    obtain ⟨g, hg⟩ : ∃ g, g = gm L1 k := ⟨_, rfl⟩
                    rw [← hg] at sg
                    have hgm : g ∈ L1 := by rw [hg, gm_eq (by rw [← Hq1.out]; exact hkq)]; exact List.getElem_mem _
                    obtain ⟨a1, a2, a3, a4⟩ := Hgen.out g hgm
                    have HPa : Hid (∀ wx, Calls Tryz.prog 31 #[.agg (mc Z), .agg (mc g)] wx fun e w' => e = .returned (.tuple #[.agg (mc Z), I 0]) ∧ Below wx.heap.size wx w') := fun wx => by have h := ImplProduct_any Z g wx; rw [a1, a3] at h; exact h
                    have HPb : Hid (∀ wx, Calls Tryz.prog 31 #[.agg (mc g), .agg (mc Z)] wx fun e w' => e = .returned (.tuple #[.agg (mc Z), I 0]) ∧ Below wx.heap.size wx w') := fun wx => by have h := ImplProduct_any g Z wx; rw [a2, a4] at h; exact h
                    have hzb := Z_r3.out.on hbk
                    have S0 : Hid (Six wr w6.heap.size Z ∧ SixAt wr b1 (o1 + k * 6) g ∧ Below wc.heap.size wc wr) := ⟨hzb.six, sg, hbk⟩
                    have hlt0 : w6.heap.size < wr.heap.size := hzb.lt
                    have hlt1 : b1 < wr.heap.size := hb1
                    have hsz := hbk.size
                    clear hg sg hgm a1 a2 a3 a4 hzb hbk
                    go_wp2_with fail
                    refine wp_region_box [] rfl (by kernel_rfl) (by kernel_rfl) (by kernel_rfl) (fun w' => Six w' (w6.heap.size) (Z) ∧ SixAt w' (b1) (o1 + k * 6) (g) ∧ Below wc.heap.size wc w') _
                      (fun q => [.agg (mc Z), .slice (some ⟨b1, o1, none⟩) q1 c1, I k, .pointer (some ⟨b1, o1 + k * 6, none⟩), .agg (mc g), .tuple #[.agg (mc Z), I 0], .tuple #[.agg (mc Z), I 0], .agg (mc Z), I 0, .pointer (some ⟨q, 0, none⟩), undef, I 0]) (by intro q; simp only [putAll, List.setIfInBounds_toArray, List.set_cons_succ, List.set_cons_zero]; rfl) ?hS 9 10 56 _ _ rfl rfl 31 (mc M0) (mc (Z)) (by kernel_rfl) (by kernel_rfl) (by decide) (fun _ _ => rfl) ?hop ?hal ?hst ?hQ
                    case hS => exact ⟨Six.below S0.out.1 (Below.refl _ _).drew hlt0, SixAt.below S0.out.2.1 (Below.refl _ _).drew hlt1, S0.out.2.2.drew⟩
                    case hop =>
                      intro q
                      refine ⟨.inr ?_, .inr ?_, .inr ?_, .inr ?_, .inr ?_, .inr ?_, .inr ?_, .inr ?_, .inr ?_, .inl rfl, .inl rfl, .inr ?_, trivial⟩
                      · (with_reducible refine Fix.of ?_ ?_; rfl; intro w' hS; have s0 := hS.1; have s1 := hS.2.1; unfold Oper.wp; go_simp; first | done | exact Below.refl _ _ | exact ⟨hS, Below.refl _ _⟩ | exact ⟨hS.2.2, Below.refl _ _⟩ | exact ⟨hS.1, hS.2.1, Below.refl _ _⟩ | exact ⟨⟨hS.1, hS.2.1⟩, Below.refl _ _⟩ | exact ⟨hS.1, hS.2.1, hS.2.2, Below.refl _ _⟩)
                      · (with_reducible refine Fix.of ?_ ?_; rfl; intro w' hS; have s0 := hS.1; have s1 := hS.2.1; unfold Oper.wp; go_simp; first | done | exact Below.refl _ _ | exact ⟨hS, Below.refl _ _⟩ | exact ⟨hS.2.2, Below.refl _ _⟩ | exact ⟨hS.1, hS.2.1, Below.refl _ _⟩ | exact ⟨⟨hS.1, hS.2.1⟩, Below.refl _ _⟩ | exact ⟨hS.1, hS.2.1, hS.2.2, Below.refl _ _⟩)
                      · (with_reducible refine Fix.of ?_ ?_; rfl; intro w' hS; have s0 := hS.1; have s1 := hS.2.1; unfold Oper.wp; go_simp; first | done | exact Below.refl _ _ | exact ⟨hS, Below.refl _ _⟩ | exact ⟨hS.2.2, Below.refl _ _⟩ | exact ⟨hS.1, hS.2.1, Below.refl _ _⟩ | exact ⟨⟨hS.1, hS.2.1⟩, Below.refl _ _⟩ | exact ⟨hS.1, hS.2.1, hS.2.2, Below.refl _ _⟩)
                      · (with_reducible refine Fix.of ?_ ?_; rfl; intro w' hS; have s0 := hS.1; have s1 := hS.2.1; unfold Oper.wp; go_simp; first | done | exact Below.refl _ _ | exact ⟨hS, Below.refl _ _⟩ | exact ⟨hS.2.2, Below.refl _ _⟩ | exact ⟨hS.1, hS.2.1, Below.refl _ _⟩ | exact ⟨⟨hS.1, hS.2.1⟩, Below.refl _ _⟩ | exact ⟨hS.1, hS.2.1, hS.2.2, Below.refl _ _⟩)
                      · (with_reducible refine Fix.of ?_ ?_; rfl; intro w' hS; have s0 := hS.1; have s1 := hS.2.1; unfold Oper.wp; go_simp; first | done | exact Below.refl _ _ | exact ⟨hS, Below.refl _ _⟩ | exact ⟨hS.2.2, Below.refl _ _⟩ | exact ⟨hS.1, hS.2.1, Below.refl _ _⟩ | exact ⟨⟨hS.1, hS.2.1⟩, Below.refl _ _⟩ | exact ⟨hS.1, hS.2.1, hS.2.2, Below.refl _ _⟩)
                      · (with_reducible refine Fix.of ?_ ?_; rfl; intro w' hS; have s3 := Lib.hid hS; unfold Oper.wp; clear hS; go_simp; refine (HPa.out _).mono ?_; rintro e w1 ⟨rfl, hb⟩; exact ⟨rfl, ⟨s3.out.1.below hb s3.out.1.lt, s3.out.2.1.below hb s3.out.2.1.lt, s3.out.2.2.trans (hb.mono s3.out.2.2.size)⟩, hb⟩)
                      · (with_reducible refine Fix.of ?_ ?_; rfl; intro w' hS; have s0 := hS.1; have s1 := hS.2.1; unfold Oper.wp; go_simp; first | done | exact Below.refl _ _ | exact ⟨hS, Below.refl _ _⟩ | exact ⟨hS.2.2, Below.refl _ _⟩ | exact ⟨hS.1, hS.2.1, Below.refl _ _⟩ | exact ⟨⟨hS.1, hS.2.1⟩, Below.refl _ _⟩ | exact ⟨hS.1, hS.2.1, hS.2.2, Below.refl _ _⟩)
                      · (with_reducible refine Fix.of ?_ ?_; rfl; intro w' hS; have s0 := hS.1; have s1 := hS.2.1; unfold Oper.wp; go_simp; first | done | exact Below.refl _ _ | exact ⟨hS, Below.refl _ _⟩ | exact ⟨hS.2.2, Below.refl _ _⟩ | exact ⟨hS.1, hS.2.1, Below.refl _ _⟩ | exact ⟨⟨hS.1, hS.2.1⟩, Below.refl _ _⟩ | exact ⟨hS.1, hS.2.1, hS.2.2, Below.refl _ _⟩)
                      · (with_reducible refine Fix.of ?_ ?_; rfl; intro w' hS; have s0 := hS.1; have s1 := hS.2.1; unfold Oper.wp; go_simp; first | done | exact Below.refl _ _ | exact ⟨hS, Below.refl _ _⟩ | exact ⟨hS.2.2, Below.refl _ _⟩ | exact ⟨hS.1, hS.2.1, Below.refl _ _⟩ | exact ⟨⟨hS.1, hS.2.1⟩, Below.refl _ _⟩ | exact ⟨hS.1, hS.2.1, hS.2.2, Below.refl _ _⟩)
                      · (with_reducible refine Fix.of ?_ ?_; rfl; intro w' hS; have s0 := hS.1; have s1 := hS.2.1; unfold Oper.wp; go_simp; first | done | exact Below.refl _ _ | exact ⟨hS, Below.refl _ _⟩ | exact ⟨hS.2.2, Below.refl _ _⟩ | exact ⟨hS.1, hS.2.1, Below.refl _ _⟩ | exact ⟨⟨hS.1, hS.2.1⟩, Below.refl _ _⟩ | exact ⟨hS.1, hS.2.1, hS.2.2, Below.refl _ _⟩)
                    case hal =>
                      intro q
                      refine ⟨rfl, fun w' hS => ?_⟩
                      have s3 := Lib.hid hS
                      clear hS
                      unfold Oper.wp
                      go_simp
                      exact ⟨rfl, s3.out.1.alloc _, s3.out.2.1.alloc _, s3.out.2.2.alloc s3.out.2.2.size _⟩
                    case hst =>
                      intro q
                      refine ⟨rfl, fun w' hS hq hB => ?_⟩
                      have s3 := Lib.hid hS
                      clear hS
                      have d := hB.six
                      have z := hB.fr6
                      unfold Oper.wp
                      go_simp
                      have hq2 := hq
                      try simp only [World.size_alloc] at hq2
                      exact ⟨⟨s3.out.1.st6 (by first | omega | (have := hlt0; omega)) _, s3.out.2.1.st6 (by first | omega | (have := hlt1; omega)) _, below_st6 s3.out.2.2 (by first | omega | (have := s3.out.2.2.size; omega)) _⟩, hB.st6 _, below_st6 (Below.refl _ _) (by first | omega | (simp <;> omega)) _⟩
                    case hQ =>
                      intro q w' hS hq hB hbel
                      obtain ⟨p1, rfl⟩ : ∃ p1, q = p1 := ⟨_, rfl⟩
                      have hz1 := hbel.size
                      have S1 : Hid (Six w' w6.heap.size Z ∧ SixAt w' b1 (o1 + k * 6) g ∧ Six w' q Z ∧ Below wc.heap.size wc w') := ⟨hS.1, hS.2.1, hB.six, hS.2.2⟩
                      have hlt2 : q < w'.heap.size := hB.lt
                      have hlt0 : w6.heap.size < w'.heap.size := by omega
                      have hlt1 : b1 < w'.heap.size := by omega
                      have hsz := S1.out.2.2.2.size
                      generalize q = p1 at *
                      clear hS hB hbel S0 hq
                      go_wp2_with fail
                      refine wp_region_box [] rfl (by kernel_rfl) (by kernel_rfl) (by kernel_rfl) (fun w' => Six w' (w6.heap.size) (Z) ∧ SixAt w' (b1) (o1 + k * 6) (g) ∧ Six w' (p1) (Z) ∧ Below wc.heap.size wc w') _
                        (fun q => [.slice (some ⟨b1, o1, none⟩) q1 c1, I k, .pointer (some ⟨b1, o1 + k * 6, none⟩), .agg (mc g), .agg (mc Z), .tuple #[.agg (mc Z), I 0], .tuple #[.agg (mc Z), I 0], .agg (mc Z), I 0, .pointer (some ⟨q, 0, none⟩), undef, I 0]) (by intro q; simp only [putAll, List.setIfInBounds_toArray, List.set_cons_succ, List.set_cons_zero]; rfl) ?hS 9 10 58 _ _ rfl rfl 31 (mc M0) (mc (Z)) (by kernel_rfl) (by kernel_rfl) (by decide) (fun _ _ => rfl) ?hop ?hal ?hst ?hQ
                      case hS => exact ⟨Six.below S1.out.1 (Below.refl _ _).drew hlt0, SixAt.below S1.out.2.1 (Below.refl _ _).drew hlt1, Six.below S1.out.2.2.1 (Below.refl _ _).drew hlt2, S1.out.2.2.2.drew⟩
                      case hop =>
                        intro q
                        refine ⟨.inr ?_, .inr ?_, .inr ?_, .inr ?_, .inr ?_, .inr ?_, .inr ?_, .inr ?_, .inr ?_, .inl rfl, .inl rfl, .inr ?_, trivial⟩
                        · (with_reducible refine Fix.of ?_ ?_; rfl; intro w' hS; have s0 := hS.1; have s1 := hS.2.1; have s2 := hS.2.2.1; unfold Oper.wp; go_simp; first | done | exact Below.refl _ _ | exact ⟨hS, Below.refl _ _⟩ | exact ⟨hS.2.2.2, Below.refl _ _⟩ | exact ⟨hS.1, hS.2.1, hS.2.2.1, Below.refl _ _⟩ | exact ⟨⟨hS.1, hS.2.1, hS.2.2.1⟩, Below.refl _ _⟩ | exact ⟨hS.1, hS.2.1, hS.2.2.1, hS.2.2.2, Below.refl _ _⟩)
                        · (with_reducible refine Fix.of ?_ ?_; rfl; intro w' hS; have s0 := hS.1; have s1 := hS.2.1; have s2 := hS.2.2.1; unfold Oper.wp; go_simp; first | done | exact Below.refl _ _ | exact ⟨hS, Below.refl _ _⟩ | exact ⟨hS.2.2.2, Below.refl _ _⟩ | exact ⟨hS.1, hS.2.1, hS.2.2.1, Below.refl _ _⟩ | exact ⟨⟨hS.1, hS.2.1, hS.2.2.1⟩, Below.refl _ _⟩ | exact ⟨hS.1, hS.2.1, hS.2.2.1, hS.2.2.2, Below.refl _ _⟩)
                        · (with_reducible refine Fix.of ?_ ?_; rfl; intro w' hS; have s0 := hS.1; have s1 := hS.2.1; have s2 := hS.2.2.1; unfold Oper.wp; go_simp; first | done | exact Below.refl _ _ | exact ⟨hS, Below.refl _ _⟩ | exact ⟨hS.2.2.2, Below.refl _ _⟩ | exact ⟨hS.1, hS.2.1, hS.2.2.1, Below.refl _ _⟩ | exact ⟨⟨hS.1, hS.2.1, hS.2.2.1⟩, Below.refl _ _⟩ | exact ⟨hS.1, hS.2.1, hS.2.2.1, hS.2.2.2, Below.refl _ _⟩)
                        · (with_reducible refine Fix.of ?_ ?_; rfl; intro w' hS; have s0 := hS.1; have s1 := hS.2.1; have s2 := hS.2.2.1; unfold Oper.wp; go_simp; first | done | exact Below.refl _ _ | exact ⟨hS, Below.refl _ _⟩ | exact ⟨hS.2.2.2, Below.refl _ _⟩ | exact ⟨hS.1, hS.2.1, hS.2.2.1, Below.refl _ _⟩ | exact ⟨⟨hS.1, hS.2.1, hS.2.2.1⟩, Below.refl _ _⟩ | exact ⟨hS.1, hS.2.1, hS.2.2.1, hS.2.2.2, Below.refl _ _⟩)
                        · (with_reducible refine Fix.of ?_ ?_; rfl; intro w' hS; have s0 := hS.1; have s1 := hS.2.1; have s2 := hS.2.2.1; unfold Oper.wp; go_simp; first | done | exact Below.refl _ _ | exact ⟨hS, Below.refl _ _⟩ | exact ⟨hS.2.2.2, Below.refl _ _⟩ | exact ⟨hS.1, hS.2.1, hS.2.2.1, Below.refl _ _⟩ | exact ⟨⟨hS.1, hS.2.1, hS.2.2.1⟩, Below.refl _ _⟩ | exact ⟨hS.1, hS.2.1, hS.2.2.1, hS.2.2.2, Below.refl _ _⟩)
                        · (with_reducible refine Fix.of ?_ ?_; rfl; intro w' hS; have s3 := Lib.hid hS; unfold Oper.wp; clear hS; go_simp; refine (HPb.out _).mono ?_; rintro e w1 ⟨rfl, hb⟩; exact ⟨rfl, ⟨s3.out.1.below hb s3.out.1.lt, s3.out.2.1.below hb s3.out.2.1.lt, s3.out.2.2.1.below hb s3.out.2.2.1.lt, s3.out.2.2.2.trans (hb.mono s3.out.2.2.2.size)⟩, hb⟩)
                        · (with_reducible refine Fix.of ?_ ?_; rfl; intro w' hS; have s0 := hS.1; have s1 := hS.2.1; have s2 := hS.2.2.1; unfold Oper.wp; go_simp; first | done | exact Below.refl _ _ | exact ⟨hS, Below.refl _ _⟩ | exact ⟨hS.2.2.2, Below.refl _ _⟩ | exact ⟨hS.1, hS.2.1, hS.2.2.1, Below.refl _ _⟩ | exact ⟨⟨hS.1, hS.2.1, hS.2.2.1⟩, Below.refl _ _⟩ | exact ⟨hS.1, hS.2.1, hS.2.2.1, hS.2.2.2, Below.refl _ _⟩)
                        · (with_reducible refine Fix.of ?_ ?_; rfl; intro w' hS; have s0 := hS.1; have s1 := hS.2.1; have s2 := hS.2.2.1; unfold Oper.wp; go_simp; first | done | exact Below.refl _ _ | exact ⟨hS, Below.refl _ _⟩ | exact ⟨hS.2.2.2, Below.refl _ _⟩ | exact ⟨hS.1, hS.2.1, hS.2.2.1, Below.refl _ _⟩ | exact ⟨⟨hS.1, hS.2.1, hS.2.2.1⟩, Below.refl _ _⟩ | exact ⟨hS.1, hS.2.1, hS.2.2.1, hS.2.2.2, Below.refl _ _⟩)
                        · (with_reducible refine Fix.of ?_ ?_; rfl; intro w' hS; have s0 := hS.1; have s1 := hS.2.1; have s2 := hS.2.2.1; unfold Oper.wp; go_simp; first | done | exact Below.refl _ _ | exact ⟨hS, Below.refl _ _⟩ | exact ⟨hS.2.2.2, Below.refl _ _⟩ | exact ⟨hS.1, hS.2.1, hS.2.2.1, Below.refl _ _⟩ | exact ⟨⟨hS.1, hS.2.1, hS.2.2.1⟩, Below.refl _ _⟩ | exact ⟨hS.1, hS.2.1, hS.2.2.1, hS.2.2.2, Below.refl _ _⟩)
                        · (with_reducible refine Fix.of ?_ ?_; rfl; intro w' hS; have s0 := hS.1; have s1 := hS.2.1; have s2 := hS.2.2.1; unfold Oper.wp; go_simp; first | done | exact Below.refl _ _ | exact ⟨hS, Below.refl _ _⟩ | exact ⟨hS.2.2.2, Below.refl _ _⟩ | exact ⟨hS.1, hS.2.1, hS.2.2.1, Below.refl _ _⟩ | exact ⟨⟨hS.1, hS.2.1, hS.2.2.1⟩, Below.refl _ _⟩ | exact ⟨hS.1, hS.2.1, hS.2.2.1, hS.2.2.2, Below.refl _ _⟩)
                      case hal =>
                        intro q
                        refine ⟨rfl, fun w' hS => ?_⟩
                        have s3 := Lib.hid hS
                        clear hS
                        unfold Oper.wp
                        go_simp
                        exact ⟨rfl, s3.out.1.alloc _, s3.out.2.1.alloc _, s3.out.2.2.1.alloc _, s3.out.2.2.2.alloc s3.out.2.2.2.size _⟩
                      case hst =>
                        intro q
                        refine ⟨rfl, fun w' hS hq hB => ?_⟩
                        have s3 := Lib.hid hS
                        clear hS
                        have d := hB.six
                        have z := hB.fr6
                        unfold Oper.wp
                        go_simp
                        have hq2 := hq
                        try simp only [World.size_alloc] at hq2
                        exact ⟨⟨s3.out.1.st6 (by first | omega | (have := hlt0; omega)) _, s3.out.2.1.st6 (by first | omega | (have := hlt1; omega)) _, s3.out.2.2.1.st6 (by first | omega | (have := hlt2; omega)) _, below_st6 s3.out.2.2.2 (by first | omega | (have := s3.out.2.2.2.size; omega)) _⟩, hB.st6 _, below_st6 (Below.refl _ _) (by first | omega | (simp <;> omega)) _⟩
                      case hQ =>
                        intro q w' hS hq hB hbel
                        obtain ⟨x0, x1, x2, x3, x4, x5⟩ := hS.1
                        obtain ⟨v0, v1, v2, v3, v4, v5⟩ := hS.2.2.1
                        obtain ⟨d0, d1, d2, d3, d4, d5⟩ := hB.six
                        have Hbq := Lib.hid hS.2.2.2
                        clear hS hB hbel S1 hsz hlt0 hlt1 hlt2 hz1 HPa HPb
                        go_wp2_with fail
                        go_roundw
                        case rel => exact ⟨k + 1, by omega, by go_num, Hbq.out⟩
                        case measure => simp [intOf]; omega
                  · clear hbk
                    go_wp2
                    go_ret
                    exact ⟨rfl, HB_r3.out.trans (Hbk.out.mono HB_r3.out.size)⟩
              · have y1 : (kz == 0) = false := by simpa using hz0
                clear hz0
                go_wp2
                go_ret
                exact ⟨rfl, HB_r3.out.trans (Hbi.out.mono HB_r3.out.size)⟩
        · have g1 : (k1 != 0) = true := by simpa using h0
          have hn0 : nu = 0 := by rw [← Hnu.out, thatR_bad (by rw [Hk1.out]; exact h0)]; rfl
          subst hn0
          clear h0
          go_wp2
          go_ret
          exact ⟨rfl, HB_r3.out⟩
end Go.Proofs.YtchjegojcpbfpaaGreat
