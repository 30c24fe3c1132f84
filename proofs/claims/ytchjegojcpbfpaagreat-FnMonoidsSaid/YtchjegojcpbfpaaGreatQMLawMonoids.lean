/- The walk of the statement on monoids; the code lies below the heap's end. -/
import Derived.Test.YtchjegojcpbfpaaGreatQM08
import Derived.Test.YtchjegojcpbfpaaGreatQM10
import Derived.Deep.DeepCutAuto
import Derived.Deep.QuietTactic
import Derived.BigQuiet
set_option linter.unusedSimpArgs false
set_option linter.unusedVariables false
namespace Go.Proofs.YtchjegojcpbfpaaGreat
open Go.RowKit
set_option maxRecDepth 100000
set_option linter.unusedSimpArgs false
set_option linter.unusedVariables false
theorem elR_len3 (ms : List M) : (elR ms []).length ≤ 300 := by
  by_cases h : elC ms [] = 0
  · obtain ⟨E, ps, hE⟩ := elC_el h
    rw [hE.r]; exact hE.len
  · rw [elR_bad h]; simp
theorem OwI.noneA {e : TypeId} {w : World} {B n c : Nat} {A : Option Addr} {ms : List Int} (h : OwI e w B (.slice A n c) ms) : A = none → n = 0 ∧ c = 0 := by
  intro hA
  rcases h.2 with ⟨h1, _⟩ | ⟨g, cap, cur, h1, _⟩
  · injection h1 with _ h2 h3; exact ⟨h2, h3⟩
  · injection h1 with h1 _ _; rw [hA] at h1; cases h1
theorem OwI.read {e : TypeId} {w : World} {B n c : Nat} {A : Option Addr} {ms : List Int} (h : OwI e w B (.slice A n c) ms) : RdI w w.heap.size A ms := by
  obtain ⟨A', c', h1, hr⟩ := h.form
  injection h1 with h1 _ _
  rw [h1]; exact hr
set_option maxHeartbeats 40000000 in
theorem lawMonoids (A : Option Addr) (n c : Nat) (zs : List Int) (w : World) (hx : RdU w w.heap.size A zs) (hn : zs.length = n) :
    Calls Tryz.prog 4 #[.slice A n c] w fun e w' => e = .returned (.bool true) ∧ Below w.heap.size w w' := by
  by_cases hbig : 4096 < n
  · have HG : Hid (∀ w, Calls Tryz.prog 5 #[.slice A n c] w fun e w' => e = .returned (.bool true) ∧ Below w.heap.size w w') := fun w => by have h := big_any A n c w; rw [decide_eq_true hbig] at h; exact h
    clear hx
    go_enter Tryz.func4, Tryz.ntmps4
    go_wp2_with fail
    refine (HG.out w).mono ?_
    rintro e w1 ⟨rfl, hb⟩
    go_wp2
    go_ret
    exact ⟨rfl, hb⟩
  have HG : Hid (∀ w, Calls Tryz.prog 5 #[.slice A n c] w fun e w' => e = .returned (.bool false) ∧ Below w.heap.size w w') := fun w => by have h := big_any A n c w; rw [decide_eq_false hbig] at h; exact h
  have Hn := Lib.hid hn
  have HX_0 := Lib.hid hx
  have HB_0 := Lib.hid (Below.refl w.heap.size w)
  have hbd : n < 4611686018427387904 := by omega
  clear hx hbig hn
  go_enter Tryz.func4, Tryz.ntmps4
  go_wp2_with fail
  refine (HG.out w).mono ?_
  rintro e w1 ⟨rfl, hb⟩
  have HB_1 := Lib.hid (HB_0.out.trans (hb.mono HB_0.out.size))
  have HX_1 := Lib.hid (HX_0.out.on hb)
  clear hb HB_0 HX_0
  clear HG
  go_wp2_with fail
  refine (DrawWordFor_any (A := A) (n := n) (c := c) w1 HX_1.out Hn.out hbd).mono ?_
  rintro e w2 ⟨A1, q1, c1, L1, f, rfl, hq, ho, hq7, hb⟩
  have HB_2 := Lib.hid (HB_1.out.trans (hb.mono HB_1.out.size))
  have HX_2 := Lib.hid (HX_1.out.on hb)
  have HL_2 := Lib.hid (ho.read)
  clear hb HB_1 HX_1
  have HN1 := Lib.hid ho.noneA
  have Hq1 := Lib.hid hq
  have hr1 : q1 < 536870912 := by omega
  clear hq ho hq7
  obtain ⟨k1, hk1⟩ : ∃ k1, monC L1 [f] = k1 := ⟨_, rfl⟩
  obtain ⟨nw, hnw⟩ : ∃ nw, (wfR L1 f).length = nw := ⟨_, rfl⟩
  obtain ⟨kE, hkE⟩ : ∃ kE, elC L1 [] = kE := ⟨_, rfl⟩
  obtain ⟨NE, hNE⟩ : ∃ NE, (elR L1 []).length = NE := ⟨_, rfl⟩
  obtain ⟨nr, hnr⟩ : ∃ nr, (srR L1).length = nr := ⟨_, rfl⟩
  obtain ⟨nl, hnl⟩ : ∃ nl, (slR L1).length = nl := ⟨_, rfl⟩
  have hnw300 : nw ≤ 300 := by rw [← hnw]; exact wfR_len _ _
  have hnr5 : nr ≤ 5 := by rw [← hnr]; exact srR_len _
  have hnl301 : nl ≤ 301 := by rw [← hnl]; exact slR_len _
  have hNE300 : NE ≤ 300 := by rw [← hNE]; exact elR_len3 _
  have ek1 : (k1 != k1) = false := by simp
  have ekE : (kE != kE) = false := by simp
  have eNE : ((NE : Int) != (NE : Int)) = false := by simp
  have HIw : Hid (∀ wx, RdM wx wx.heap.size A1 L1 → Calls Tryz.prog 33 #[.slice A1 q1 c1, .agg (mc f)] wx (RetQ (wfR L1 f) nw k1 wx)) := fun wx hr => (ImplWordFor_any A1 q1 c1 L1 f wx hr Hq1.out.symm HN1.out hr1).mono fun e w' h => (RetI.toS h).toQ hnw hk1
  have HSw : Hid (∀ wx, RdM wx wx.heap.size A1 L1 → Calls Tryz.prog 34 #[.slice A1 q1 c1, .agg (mc f)] wx (RetQ (wfR L1 f) nw k1 wx)) := fun wx hr => (SpecWordFor_any A1 q1 c1 L1 f wx hr Hq1.out.symm (by omega)).mono fun e w' h => RetSI.toQ h hnw hk1
  have HIe : Hid (∀ wx, RdM wx wx.heap.size A1 L1 → Calls Tryz.prog 35 #[.slice A1 q1 c1] wx (RetR (elR L1 []) NE kE wx)) := fun wx hr => (ImplElementsOf_any A1 q1 c1 L1 wx hr Hq1.out.symm HN1.out hr1).mono fun e w' h => (RetM.toS h).toR hNE hkE
  have HSe : Hid (∀ wx, RdM wx wx.heap.size A1 L1 → Calls Tryz.prog 36 #[.slice A1 q1 c1] wx (RetR (elR L1 []) NE kE wx)) := fun wx hr => (SpecElementsOf_any A1 q1 c1 L1 wx hr Hq1.out.symm (by omega)).mono fun e w' h => RetS.toR h hNE hkE
  have HIs : Hid (∀ wx, RdM wx wx.heap.size A1 L1 → Calls Tryz.prog 29 #[.slice A1 q1 c1] wx fun e w' => e = .returned (.tuple #[I NE, I kE]) ∧ Below wx.heap.size wx w') := fun wx hr => by have h := ImplSizeOf_any A1 q1 c1 L1 wx hr Hq1.out.symm HN1.out hr1; rw [hNE, hkE] at h; exact h
  have HSs : Hid (∀ wx, RdM wx wx.heap.size A1 L1 → Calls Tryz.prog 37 #[.slice A1 q1 c1] wx fun e w' => e = .returned (.tuple #[I NE, I kE]) ∧ Below wx.heap.size wx w') := fun wx hr => by have h := SpecSizeOf_any A1 q1 c1 L1 wx hr Hq1.out.symm (by omega); rw [hNE, hkE] at h; exact h
  have HIr : Hid (∀ wx, RdM wx wx.heap.size A1 L1 → Calls Tryz.prog 38 #[.slice A1 q1 c1] wx (RetQ (srR L1) nr kE wx)) := fun wx hr => (ImplSR_any A1 q1 c1 L1 wx hr Hq1.out.symm HN1.out hr1).mono fun e w' h => (RetI.toS h).toQ hnr hkE
  have HSr : Hid (∀ wx, RdM wx wx.heap.size A1 L1 → Calls Tryz.prog 39 #[.slice A1 q1 c1] wx (RetQ (srR L1) nr kE wx)) := fun wx hr => (SpecSR_any A1 q1 c1 L1 wx hr Hq1.out.symm (by omega)).mono fun e w' h => RetSI.toQ h hnr hkE
  have HIl : Hid (∀ wx, RdM wx wx.heap.size A1 L1 → Calls Tryz.prog 40 #[.slice A1 q1 c1] wx (RetQ (slR L1) nl kE wx)) := fun wx hr => (ImplSL_any A1 q1 c1 L1 wx hr Hq1.out.symm HN1.out hr1).mono fun e w' h => (RetI.toS h).toQ hnl hkE
  have HSl : Hid (∀ wx, RdM wx wx.heap.size A1 L1 → Calls Tryz.prog 41 #[.slice A1 q1 c1] wx (RetQ (slR L1) nl kE wx)) := fun wx hr => (SpecSL_any A1 q1 c1 L1 wx hr Hq1.out.symm (by omega)).mono fun e w' h => RetSI.toQ h hnl hkE
  have Hk1 := Lib.hid hk1
  have Hnw := Lib.hid hnw
  have HkE := Lib.hid hkE
  have HNE := Lib.hid hNE
  have Hnr := Lib.hid hnr
  have Hnl := Lib.hid hnl
  clear hk1 hnw hkE hNE hnr hnl
  have hb : Below w2.heap.size w2 (w2.alloc (.cells (mc f) 31)) := (Below.refl _ _).alloc (Nat.le_refl _) _
  have HB_3 := Lib.hid (HB_2.out.trans (hb.mono HB_2.out.size))
  have HX_3 := Lib.hid (HX_2.out.on hb)
  have HL_3 := Lib.hid (HL_2.out.on hb)
  have F_3 := Lib.hid (show Blk (w2.alloc (.cells (mc f) 31)) w2.heap.size 31 (mc f) from Blk.new _ _ _)
  clear hb HB_2 HX_2 HL_2
  obtain ⟨xF0, xF1, xF2, xF3, xF4, xF5⟩ := F_3.out.six
  go_wp2_with fail
  refine (HIw.out _ HL_3.out).mono ?_
  rintro e w4 ⟨A2, c2, rfl, hr, hb⟩
  have HB_4 := Lib.hid (HB_3.out.trans (hb.mono HB_3.out.size))
  have HX_4 := Lib.hid (HX_3.out.on hb)
  have HL_4 := Lib.hid (HL_3.out.on hb)
  have F_4 := Lib.hid (F_3.out.on hb)
  have HW_4 := Lib.hid (hr)
  clear hb HB_3 HX_3 HL_3 F_3
  clear hr HIw
  clear xF0 xF1 xF2 xF3 xF4 xF5
  obtain ⟨xF0, xF1, xF2, xF3, xF4, xF5⟩ := F_4.out.six
  go_wp2_with fail
  refine (HSw.out _ HL_4.out).mono ?_
  rintro e w5 ⟨A3, c3, rfl, hr, hb⟩
  have HB_5 := Lib.hid (HB_4.out.trans (hb.mono HB_4.out.size))
  have HX_5 := Lib.hid (HX_4.out.on hb)
  have HL_5 := Lib.hid (HL_4.out.on hb)
  have F_5 := Lib.hid (F_4.out.on hb)
  have HW_5 := Lib.hid (HW_4.out.on hb)
  have Hb_5 := Lib.hid (hr)
  clear hb HB_4 HX_4 HL_4 F_4 HW_4
  clear hr HSw
  clear xF0 xF1 xF2 xF3 xF4 xF5
  go_wp2_with fail
  refine (likeInts_same A2 A3 nw c2 c3 (wfR L1 f) w5 Hnw.out HW_5.out Hb_5.out (by omega)).mono ?_
  rintro e w6 ⟨rfl, hb⟩
  have HB_6 := Lib.hid (HB_5.out.trans (hb.mono HB_5.out.size))
  have HX_6 := Lib.hid (HX_5.out.on hb)
  have HL_6 := Lib.hid (HL_5.out.on hb)
  have F_6 := Lib.hid (F_5.out.on hb)
  have HW_6 := Lib.hid (HW_5.out.on hb)
  clear hb HB_5 HX_5 HL_5 F_5 HW_5 Hb_5
  go_wp2_with fail
  refine (HIe.out _ HL_6.out).mono ?_
  rintro e w7 ⟨A4, c4, rfl, hr, hb⟩
  have HB_7 := Lib.hid (HB_6.out.trans (hb.mono HB_6.out.size))
  have HX_7 := Lib.hid (HX_6.out.on hb)
  have HL_7 := Lib.hid (HL_6.out.on hb)
  have F_7 := Lib.hid (F_6.out.on hb)
  have HW_7 := Lib.hid (HW_6.out.on hb)
  have HE_7 := Lib.hid (hr)
  clear hb HB_6 HX_6 HL_6 F_6 HW_6
  clear hr HIe
  go_wp2_with fail
  refine (HSe.out _ HL_7.out).mono ?_
  rintro e w8 ⟨A5, c5, rfl, hr, hb⟩
  have HB_8 := Lib.hid (HB_7.out.trans (hb.mono HB_7.out.size))
  have HX_8 := Lib.hid (HX_7.out.on hb)
  have HL_8 := Lib.hid (HL_7.out.on hb)
  have F_8 := Lib.hid (F_7.out.on hb)
  have HW_8 := Lib.hid (HW_7.out.on hb)
  have HE_8 := Lib.hid (HE_7.out.on hb)
  have Hb_8 := Lib.hid (hr)
  clear hb HB_7 HX_7 HL_7 F_7 HW_7 HE_7
  clear hr HSe
  go_wp2_with fail
  refine (maps9_same A4 A5 NE c4 c5 (elR L1 []) w8 HNE.out HE_8.out Hb_8.out (by omega)).mono ?_
  rintro e w9 ⟨rfl, hb⟩
  have HB_9 := Lib.hid (HB_8.out.trans (hb.mono HB_8.out.size))
  have HX_9 := Lib.hid (HX_8.out.on hb)
  have HL_9 := Lib.hid (HL_8.out.on hb)
  have F_9 := Lib.hid (F_8.out.on hb)
  have HW_9 := Lib.hid (HW_8.out.on hb)
  have HE_9 := Lib.hid (HE_8.out.on hb)
  clear hb HB_8 HX_8 HL_8 F_8 HW_8 HE_8 Hb_8
  go_wp2_with fail
  refine (HIs.out _ HL_9.out).mono ?_
  rintro e w10 ⟨rfl, hb⟩
  have HB_10 := Lib.hid (HB_9.out.trans (hb.mono HB_9.out.size))
  have HX_10 := Lib.hid (HX_9.out.on hb)
  have HL_10 := Lib.hid (HL_9.out.on hb)
  have F_10 := Lib.hid (F_9.out.on hb)
  have HW_10 := Lib.hid (HW_9.out.on hb)
  have HE_10 := Lib.hid (HE_9.out.on hb)
  clear hb HB_9 HX_9 HL_9 F_9 HW_9 HE_9
  clear HIs
  go_wp2_with fail
  refine (HSs.out _ HL_10.out).mono ?_
  rintro e w11 ⟨rfl, hb⟩
  have HB_11 := Lib.hid (HB_10.out.trans (hb.mono HB_10.out.size))
  have HX_11 := Lib.hid (HX_10.out.on hb)
  have HL_11 := Lib.hid (HL_10.out.on hb)
  have F_11 := Lib.hid (F_10.out.on hb)
  have HW_11 := Lib.hid (HW_10.out.on hb)
  have HE_11 := Lib.hid (HE_10.out.on hb)
  clear hb HB_10 HX_10 HL_10 F_10 HW_10 HE_10
  clear HSs
  go_wp2_with fail
  refine (HIr.out _ HL_11.out).mono ?_
  rintro e w12 ⟨A6, c6, rfl, hr, hb⟩
  have HB_12 := Lib.hid (HB_11.out.trans (hb.mono HB_11.out.size))
  have HX_12 := Lib.hid (HX_11.out.on hb)
  have HL_12 := Lib.hid (HL_11.out.on hb)
  have F_12 := Lib.hid (F_11.out.on hb)
  have HW_12 := Lib.hid (HW_11.out.on hb)
  have HE_12 := Lib.hid (HE_11.out.on hb)
  have HR_12 := Lib.hid (hr)
  clear hb HB_11 HX_11 HL_11 F_11 HW_11 HE_11
  clear hr HIr
  go_wp2_with fail
  refine (HSr.out _ HL_12.out).mono ?_
  rintro e w13 ⟨A7, c7, rfl, hr, hb⟩
  have HB_13 := Lib.hid (HB_12.out.trans (hb.mono HB_12.out.size))
  have HX_13 := Lib.hid (HX_12.out.on hb)
  have HL_13 := Lib.hid (HL_12.out.on hb)
  have F_13 := Lib.hid (F_12.out.on hb)
  have HW_13 := Lib.hid (HW_12.out.on hb)
  have HE_13 := Lib.hid (HE_12.out.on hb)
  have HR_13 := Lib.hid (HR_12.out.on hb)
  have Hb_13 := Lib.hid (hr)
  clear hb HB_12 HX_12 HL_12 F_12 HW_12 HE_12 HR_12
  clear hr HSr
  go_wp2_with fail
  refine (likeInts_same A6 A7 nr c6 c7 (srR L1) w13 Hnr.out HR_13.out Hb_13.out (by omega)).mono ?_
  rintro e w14 ⟨rfl, hb⟩
  have HB_14 := Lib.hid (HB_13.out.trans (hb.mono HB_13.out.size))
  have HX_14 := Lib.hid (HX_13.out.on hb)
  have HL_14 := Lib.hid (HL_13.out.on hb)
  have F_14 := Lib.hid (F_13.out.on hb)
  have HW_14 := Lib.hid (HW_13.out.on hb)
  have HE_14 := Lib.hid (HE_13.out.on hb)
  have HR_14 := Lib.hid (HR_13.out.on hb)
  clear hb HB_13 HX_13 HL_13 F_13 HW_13 HE_13 HR_13 Hb_13
  go_wp2_with fail
  refine (HIl.out _ HL_14.out).mono ?_
  rintro e w15 ⟨A8, c8, rfl, hr, hb⟩
  have HB_15 := Lib.hid (HB_14.out.trans (hb.mono HB_14.out.size))
  have HX_15 := Lib.hid (HX_14.out.on hb)
  have HL_15 := Lib.hid (HL_14.out.on hb)
  have F_15 := Lib.hid (F_14.out.on hb)
  have HW_15 := Lib.hid (HW_14.out.on hb)
  have HE_15 := Lib.hid (HE_14.out.on hb)
  have HR_15 := Lib.hid (HR_14.out.on hb)
  have HZ_15 := Lib.hid (hr)
  clear hb HB_14 HX_14 HL_14 F_14 HW_14 HE_14 HR_14
  clear hr HIl
  go_wp2_with fail
  refine (HSl.out _ HL_15.out).mono ?_
  rintro e w16 ⟨A9, c9, rfl, hr, hb⟩
  have HB_16 := Lib.hid (HB_15.out.trans (hb.mono HB_15.out.size))
  have HX_16 := Lib.hid (HX_15.out.on hb)
  have HL_16 := Lib.hid (HL_15.out.on hb)
  have F_16 := Lib.hid (F_15.out.on hb)
  have HW_16 := Lib.hid (HW_15.out.on hb)
  have HE_16 := Lib.hid (HE_15.out.on hb)
  have HR_16 := Lib.hid (HR_15.out.on hb)
  have HZ_16 := Lib.hid (HZ_15.out.on hb)
  have Hb_16 := Lib.hid (hr)
  clear hb HB_15 HX_15 HL_15 F_15 HW_15 HE_15 HR_15 HZ_15
  clear hr HSl
  go_wp2_with fail
  refine (likeInts_same A8 A9 nl c8 c9 (slR L1) w16 Hnl.out HZ_16.out Hb_16.out (by omega)).mono ?_
  rintro e w17 ⟨rfl, hb⟩
  have HB_17 := Lib.hid (HB_16.out.trans (hb.mono HB_16.out.size))
  have HX_17 := Lib.hid (HX_16.out.on hb)
  have HL_17 := Lib.hid (HL_16.out.on hb)
  have F_17 := Lib.hid (F_16.out.on hb)
  have HW_17 := Lib.hid (HW_16.out.on hb)
  have HE_17 := Lib.hid (HE_16.out.on hb)
  have HR_17 := Lib.hid (HR_16.out.on hb)
  have HZ_17 := Lib.hid (HZ_16.out.on hb)
  clear hb HB_16 HX_16 HL_16 F_16 HW_16 HE_16 HR_16 HZ_16 Hb_16
  go_wp2_with fail
  refine (DrawMapOfWord_any (A := A) (n := n) (c := c) _ HX_17.out Hn.out hbd).mono ?_
  rintro e w18 ⟨A10, q10, c10, L10, A11, q11, c11, us, rfl, hq, ho, hq7, hl, ho2, hl2, hb⟩
  have HB_18 := Lib.hid (HB_17.out.trans (hb.mono HB_17.out.size))
  have HL_18 := Lib.hid (HL_17.out.on hb)
  have F_18 := Lib.hid (F_17.out.on hb)
  have HW_18 := Lib.hid (HW_17.out.on hb)
  have HE_18 := Lib.hid (HE_17.out.on hb)
  have HR_18 := Lib.hid (HR_17.out.on hb)
  have HZ_18 := Lib.hid (HZ_17.out.on hb)
  have HM_18 := Lib.hid (ho.read)
  have HV_18 := Lib.hid (ho2.read)
  clear hb HB_17 HX_17 HL_17 F_17 HW_17 HE_17 HR_17 HZ_17
  have HN10 := Lib.hid ho.noneA
  have Hq10 := Lib.hid hq
  have hr10 : q10 < 536870912 := by omega
  have Hl := Lib.hid hl
  clear hq ho hq7 ho2 hl
  obtain ⟨G, hG⟩ : ∃ G, mwR L10 us = G := ⟨_, rfl⟩
  obtain ⟨kg, hkg⟩ : ∃ kg, mwC L10 us = kg := ⟨_, rfl⟩
  have ekg : (kg != kg) = false := by simp
  have heqG := eqMap_run G G
  rw [decide_eq_true rfl] at heqG
  have HIg : Hid (∀ wx, RdM wx wx.heap.size A10 L10 → RdI wx wx.heap.size A11 us → Calls Tryz.prog 43 #[.slice A10 q10 c10, .slice A11 q11 c11] wx fun e w' => e = .returned (.tuple #[.agg (mc G), I kg]) ∧ Below wx.heap.size wx w') := fun wx hr hv => by have h := ImplMapOfWord_any A10 A11 q10 c10 q11 c11 L10 us wx hr hv Hq10.out.symm Hl.out HN10.out (by omega) (by omega); rw [hG, hkg] at h; exact h
  have HSg : Hid (∀ wx, RdM wx wx.heap.size A10 L10 → RdI wx wx.heap.size A11 us → Calls Tryz.prog 44 #[.slice A10 q10 c10, .slice A11 q11 c11] wx fun e w' => e = .returned (.tuple #[.agg (mc G), I kg]) ∧ Below wx.heap.size wx w') := fun wx hr hv => by have h := SpecMapOfWord_any A10 A11 q10 c10 q11 c11 L10 us wx hr hv Hq10.out.symm Hl.out (by omega) (by omega); rw [hG, hkg] at h; exact h
  have HG := Lib.hid hG
  have Hkg := Lib.hid hkg
  clear hG hkg
  go_wp2_with fail
  refine (HIg.out _ HM_18.out HV_18.out).mono ?_
  rintro e w19 ⟨rfl, hb⟩
  have HB_19 := Lib.hid (HB_18.out.trans (hb.mono HB_18.out.size))
  have HL_19 := Lib.hid (HL_18.out.on hb)
  have F_19 := Lib.hid (F_18.out.on hb)
  have HW_19 := Lib.hid (HW_18.out.on hb)
  have HE_19 := Lib.hid (HE_18.out.on hb)
  have HR_19 := Lib.hid (HR_18.out.on hb)
  have HZ_19 := Lib.hid (HZ_18.out.on hb)
  have HM_19 := Lib.hid (HM_18.out.on hb)
  have HV_19 := Lib.hid (HV_18.out.on hb)
  clear hb HB_18 HL_18 F_18 HW_18 HE_18 HR_18 HZ_18 HM_18 HV_18
  clear HIg
  have hb : Below w19.heap.size w19 (w19.alloc (.cells (mc G) 31)) := (Below.refl _ _).alloc (Nat.le_refl _) _
  have HB_20 := Lib.hid (HB_19.out.trans (hb.mono HB_19.out.size))
  have HL_20 := Lib.hid (HL_19.out.on hb)
  have F_20 := Lib.hid (F_19.out.on hb)
  have HW_20 := Lib.hid (HW_19.out.on hb)
  have HE_20 := Lib.hid (HE_19.out.on hb)
  have HR_20 := Lib.hid (HR_19.out.on hb)
  have HZ_20 := Lib.hid (HZ_19.out.on hb)
  have HM_20 := Lib.hid (HM_19.out.on hb)
  have HV_20 := Lib.hid (HV_19.out.on hb)
  have G_20 := Lib.hid (show Blk (w19.alloc (.cells (mc G) 31)) w19.heap.size 31 (mc G) from Blk.new _ _ _)
  clear hb HB_19 HL_19 F_19 HW_19 HE_19 HR_19 HZ_19 HM_19 HV_19
  go_wp2_with fail
  refine (HSg.out _ HM_20.out HV_20.out).mono ?_
  rintro e w21 ⟨rfl, hb⟩
  have HB_21 := Lib.hid (HB_20.out.trans (hb.mono HB_20.out.size))
  have HL_21 := Lib.hid (HL_20.out.on hb)
  have F_21 := Lib.hid (F_20.out.on hb)
  have HW_21 := Lib.hid (HW_20.out.on hb)
  have HE_21 := Lib.hid (HE_20.out.on hb)
  have HR_21 := Lib.hid (HR_20.out.on hb)
  have HZ_21 := Lib.hid (HZ_20.out.on hb)
  have HM_21 := Lib.hid (HM_20.out.on hb)
  have G_21 := Lib.hid (G_20.out.on hb)
  clear hb HB_20 HL_20 F_20 HW_20 HE_20 HR_20 HZ_20 HM_20 HV_20 G_20
  clear HSg
  have hb : Below w21.heap.size w21 (w21.alloc (.cells (mc G) 31)) := (Below.refl _ _).alloc (Nat.le_refl _) _
  have HB_22 := Lib.hid (HB_21.out.trans (hb.mono HB_21.out.size))
  have HL_22 := Lib.hid (HL_21.out.on hb)
  have F_22 := Lib.hid (F_21.out.on hb)
  have HW_22 := Lib.hid (HW_21.out.on hb)
  have HE_22 := Lib.hid (HE_21.out.on hb)
  have HR_22 := Lib.hid (HR_21.out.on hb)
  have HZ_22 := Lib.hid (HZ_21.out.on hb)
  have HM_22 := Lib.hid (HM_21.out.on hb)
  have G_22 := Lib.hid (G_21.out.on hb)
  have Y_22 := Lib.hid (show Blk (w21.alloc (.cells (mc G) 31)) w21.heap.size 31 (mc G) from Blk.new _ _ _)
  clear hb HB_21 HL_21 F_21 HW_21 HE_21 HR_21 HZ_21 HM_21 G_21
  obtain ⟨xG0, xG1, xG2, xG3, xG4, xG5⟩ := G_22.out.six
  obtain ⟨xY0, xY1, xY2, xY3, xY4, xY5⟩ := Y_22.out.six
  go_upto_if 168 with fail
  clear xG0 xG1 xG2 xG3 xG4 xG5 xY0 xY1 xY2 xY3 xY4 xY5
  go_cut [168] from 286 (fun _ wx => Below w.heap.size w wx ∧ RdM wx wx.heap.size A1 L1 ∧ Blk wx w2.heap.size 31 (mc f) ∧ RdI wx wx.heap.size A2 (wfR L1 f) ∧ RdM wx wx.heap.size A4 (elR L1 []) ∧ RdI wx wx.heap.size A6 (srR L1) ∧ RdI wx wx.heap.size A8 (slR L1))
  case first =>
    by_cases h0 : kg = 0
    · have g0 : (kg == 0) = true := by simpa using h0
      obtain ⟨xG0, xG1, xG2, xG3, xG4, xG5⟩ := G_22.out.six
      have hel := word_el (Hkg.out.trans h0)
      rw [HG.out] at hel
      obtain ⟨b8, hb8⟩ : ∃ b8, isElB L10 G = b8 := ⟨_, rfl⟩
      obtain ⟨k8, hk8⟩ : ∃ k8, elC L10 [G] = k8 := ⟨_, rfl⟩
      rw [hb8, hk8] at hel
      have HIx : Hid (∀ wx, RdM wx wx.heap.size A10 L10 → Calls Tryz.prog 27 #[.slice A10 q10 c10, .agg (mc G)] wx fun e w' => e = .returned (.tuple #[.bool b8, I k8]) ∧ Below wx.heap.size wx w') := fun wx hr => by have h := ImplIsElement_any A10 q10 c10 L10 G wx hr Hq10.out.symm HN10.out hr10; rw [hb8, hk8] at h; exact h
      have Hel := Lib.hid hel
      clear h0 hel hb8 hk8
      go_wp2_with fail
      refine (HIx.out _ HM_22.out).mono ?_
      rintro e w23 ⟨rfl, hb⟩
      have HB_23 := Lib.hid (HB_22.out.trans (hb.mono HB_22.out.size))
      have HL_23 := Lib.hid (HL_22.out.on hb)
      have F_23 := Lib.hid (F_22.out.on hb)
      have HW_23 := Lib.hid (HW_22.out.on hb)
      have HE_23 := Lib.hid (HE_22.out.on hb)
      have HR_23 := Lib.hid (HR_22.out.on hb)
      have HZ_23 := Lib.hid (HZ_22.out.on hb)
      have HM_23 := Lib.hid (HM_22.out.on hb)
      have G_23 := Lib.hid (G_22.out.on hb)
      have Y_23 := Lib.hid (Y_22.out.on hb)
      clear hb HB_22 HL_22 F_22 HW_22 HE_22 HR_22 HZ_22 HM_22 G_22 Y_22
      clear HIx
      clear xG0 xG1 xG2 xG3 xG4 xG5
      rcases Hel.out with rfl | ⟨rfl, rfl⟩
      · clear Hel
        go_wp2_with fail
        go_meet
        exact ⟨HB_23.out, HL_23.out, F_23.out, HW_23.out, HE_23.out, HR_23.out, HZ_23.out⟩
      · clear Hel
        go_wp2_with fail
        go_meet
        exact ⟨HB_23.out, HL_23.out, F_23.out, HW_23.out, HE_23.out, HR_23.out, HZ_23.out⟩
    · have g0 : (kg == 0) = false := by simpa using h0
      clear h0
      go_wp2_with fail
      go_meet
      exact ⟨HB_22.out, HL_22.out, F_22.out, HW_22.out, HE_22.out, HR_22.out, HZ_22.out⟩
  case rest =>
    clear HB_22 HL_22 F_22 HW_22 HE_22 HR_22 HZ_22 HM_22 G_22 Y_22 Hkg HG ekg heqG Hq10 HN10 hr10 Hl hl2
    obtain ⟨hHB, hHL, hF, hHW, hHE, hHR, hHZ⟩ := hcut
    have HB_r1 := Lib.hid hHB
    have HL_r1 := Lib.hid hHL
    have F_r1 := Lib.hid hF
    have HW_r1 := Lib.hid hHW
    have HE_r1 := Lib.hid hHE
    have HR_r1 := Lib.hid hHR
    have HZ_r1 := Lib.hid hHZ
    clear hHB hHL hF hHW hHE hHR hHZ
    go_upto_if 186 with fail
    go_cut [186] from 286 (fun _ wx => Below w.heap.size w wx ∧ RdM wx wx.heap.size A1 L1 ∧ Blk wx w2.heap.size 31 (mc f) ∧ RdI wx wx.heap.size A2 (wfR L1 f))
    case first =>
      by_cases h0 : kE = 0
      · have g0 : (kE == 0) = true := by simpa using h0
        have g1 : (kE != 0) = false := by simpa using h0
        obtain ⟨E, hE⟩ := elems (HkE.out.trans h0)
        have hEl : E.length = NE := by rw [← hE.r]; exact HNE.out
        have hpos := hE.pos
        rw [hEl] at hpos
        have z1 : ¬ ((NE : Int) < 1) := by omega
        have hsr := hE.sr
        rw [Hnr.out, hEl] at hsr
        have hsl := hE.sl
        rw [Hnl.out, hEl] at hsl
        have HSR : Hid (∀ wx, RdI wx wx.heap.size A6 (srR L1) → Calls Tryz.prog 45 #[.slice A6 nr c6] wx fun e w' => e = .returned (I NE) ∧ Below wx.heap.size wx w') := fun wx hr => by have h := sum_any A6 nr c6 (srR L1) wx Hnr.out hr (by omega) hE.srb; rw [hsr] at h; exact h
        have HSL : Hid (∀ wx, RdI wx wx.heap.size A8 (slR L1) → Calls Tryz.prog 45 #[.slice A8 nl c8] wx fun e w' => e = .returned (I NE) ∧ Below wx.heap.size wx w') := fun wx hr => by have h := sum_any A8 nl c8 (slR L1) wx Hnl.out hr (by omega) hE.slb; rw [hsl] at h; exact h
        have hslp := hE.slp
        rw [Hnl.out] at hslp
        have HE0 := Lib.hid hE
        have hEr := hE.r
        have HEl := Lib.hid hEl
        have HEr := Lib.hid hEr
        clear h0 hsr hsl hE hEl hEr
        go_wp2_with fail
        refine (HSR.out _ HR_r1.out).mono ?_
        rintro e w23 ⟨rfl, hb⟩
        have HB_23 := Lib.hid (HB_r1.out.trans (hb.mono HB_r1.out.size))
        have HL_23 := Lib.hid (HL_r1.out.on hb)
        have F_23 := Lib.hid (F_r1.out.on hb)
        have HW_23 := Lib.hid (HW_r1.out.on hb)
        have HE_23 := Lib.hid (HE_r1.out.on hb)
        have HR_23 := Lib.hid (HR_r1.out.on hb)
        have HZ_23 := Lib.hid (HZ_r1.out.on hb)
        clear hb HB_r1 HL_r1 F_r1 HW_r1 HE_r1 HR_r1 HZ_r1
        clear HSR
        go_wp2_with fail
        refine (HSL.out _ HZ_23.out).mono ?_
        rintro e w24 ⟨rfl, hb⟩
        have HB_24 := Lib.hid (HB_23.out.trans (hb.mono HB_23.out.size))
        have HL_24 := Lib.hid (HL_23.out.on hb)
        have F_24 := Lib.hid (F_23.out.on hb)
        have HW_24 := Lib.hid (HW_23.out.on hb)
        have HE_24 := Lib.hid (HE_23.out.on hb)
        have HR_24 := Lib.hid (HR_23.out.on hb)
        have HZ_24 := Lib.hid (HZ_23.out.on hb)
        clear hb HB_23 HL_23 F_23 HW_23 HE_23 HR_23 HZ_23
        clear HSL
        obtain ⟨b8', o8', rfl, _, s8⟩ := RdI.at_ HZ_24.out (k := 0) (by rw [Hnl.out]; exact hslp)
        rw [HE0.out.sl0] at s8
        simp only [Nat.add_zero] at s8
        have z2 : (0 : Int) < (nl : Int) := by omega
        go_wp2_with fail
        go_loopw [33] (fun i wr => ∃ k : Nat, k ≤ NE ∧ i = .int .i64 k ∧ Below w24.heap.size w24 wr) (fun i _ => NE - (intOf i).toNat)
        case atStart => exact ⟨0, by omega, rfl, Below.refl _ _⟩
        case round =>
          clear s8 z2 hslp
          obtain ⟨i, hi, rfl, hbi⟩ := hrel
          have Hbi := Lib.hid hbi
          clear hbi
          by_cases hlt : i < NE
          · have i0 : (0 : Int) ≤ (i : Int) := by omega
            have i1 : (i : Int) < (NE : Int) := by omega
            by_cases h20 : i < 20
            · have i2 : (i : Int) < 20 := by omega
              go_wp2_with fail
              go_loopw [34] (fun j wq => ∃ k : Nat, k ≤ q1 ∧ j = .int .i64 k ∧ Below w24.heap.size w24 wq) (fun j _ => q1 - (intOf j).toNat)
              case atStart => exact ⟨0, by omega, rfl, Hbi.out⟩
              case round =>
                obtain ⟨k, hk, rfl, hbk⟩ := hrel
                have Hbk := Lib.hid hbk
                clear Hbi
                by_cases hkq : k < q1
                · have k0 : (0 : Int) ≤ (k : Int) := by omega
                  have k1' : (k : Int) < (q1 : Int) := by omega
                  obtain ⟨b1, o1, rfl, hb1, sg⟩ := RdM.at_ (HL_24.out.on hbk) (k := k) (by rw [← Hq1.out]; exact hkq)
                  obtain ⟨b4, o4, rfl, hb4, sa⟩ := RdM.at_ (HE_24.out.on hbk) (k := i) (by rw [HNE.out]; exact hlt)
                  obtain ⟨g, hg⟩ : ∃ g, g = gm L1 k := ⟨_, rfl⟩
                  obtain ⟨a, ha⟩ : ∃ a, a = gm (elR L1 []) i := ⟨_, rfl⟩
                  rw [← hg] at sg
                  rw [← ha] at sa
                  have hgm : g ∈ L1 := by rw [hg, gm_eq (by rw [← Hq1.out]; exact hkq)]; exact List.getElem_mem _
                  have ham : a ∈ E := by rw [← HEr.out, ha, gm_eq (by rw [HNE.out]; exact hlt)]; exact List.getElem_mem _
                  obtain ⟨P, hP⟩ : ∃ P, P = mul a g := ⟨_, rfl⟩
                  have hPE : P ∈ elR L1 [] := by rw [HEr.out, hP]; exact HE0.out.mulE a ham g hgm
                  have va := HE0.out.ok a ham
                  have vg := HE0.out.gens g hgm
                  have hlk : like a g = true := like_iff.2 ⟨va.1, vg.1, by rw [va.2, vg.2]⟩
                  have HP : Hid (∀ wx, Calls Tryz.prog 31 #[.agg (mc a), .agg (mc g)] wx fun e w' => e = .returned (.tuple #[.agg (mc P), I 0]) ∧ Below wx.heap.size wx w') := fun wx => by
                    have h := ImplProduct_any a g wx
                    rw [(codeLike_like a g).1 hlk] at h
                    unfold mulR at h
                    rw [if_pos hlk, ← hP] at h
                    exact h
                  have HPE := Lib.hid hPE
                  have S0 : Hid (SixAt wr b4 (o4 + i * 6) a ∧ SixAt wr b1 (o1 + k * 6) g ∧ Below w24.heap.size w24 wr) := ⟨sa, sg, hbk⟩
                  have hlt0 : b4 < wr.heap.size := hb4
                  have hlt1 : b1 < wr.heap.size := hb1
                  have hsz := hbk.size
                  clear hg ha hP hPE va vg hlk sg sa hgm ham hbk
                  go_wp2_with fail
                  refine wp_region_box [] rfl (by kernel_rfl) (by kernel_rfl) (by kernel_rfl) (fun w' => SixAt w' (b4) (o4 + i * 6) (a) ∧ SixAt w' (b1) (o1 + k * 6) (g) ∧ Below w24.heap.size w24 w') _
                    (fun q => [.slice (some ⟨b4, o4, none⟩) NE c4, I i, .pointer (some ⟨b4, o4 + i * 6, none⟩), .agg (mc a), .slice (some ⟨b1, o1, none⟩) q1 c1, I k, .pointer (some ⟨b1, o1 + k * 6, none⟩), .agg (mc g), .tuple #[.agg (mc P), I 0], .tuple #[.agg (mc P), I 0], .agg (mc P), I 0, .pointer (some ⟨q, 0, none⟩), undef, I 0]) (by intro q; simp only [putAll, List.setIfInBounds_toArray, List.set_cons_succ, List.set_cons_zero]; rfl) ?hS 12 13 35 _ _ rfl rfl 31 (mc M0) (mc (P)) (by kernel_rfl) (by kernel_rfl) (by decide) (fun _ _ => rfl) ?hop ?hal ?hst ?hQ
                  case hS => exact ⟨SixAt.below S0.out.1 (Below.refl _ _).drew hlt0, SixAt.below S0.out.2.1 (Below.refl _ _).drew hlt1, S0.out.2.2.drew⟩
                  case hop =>
                    intro q
                    refine ⟨.inr ?_, .inr ?_, .inr ?_, .inr ?_, .inr ?_, .inr ?_, .inr ?_, .inr ?_, .inr ?_, .inr ?_, .inr ?_, .inr ?_, .inl rfl, .inl rfl, .inr ?_, trivial⟩
                    · (with_reducible refine Fix.of ?_ ?_; rfl; intro w' hS; have s0 := hS.1; have s1 := hS.2.1; unfold Oper.wp; go_simp; first | done | exact Below.refl _ _ | exact ⟨hS, Below.refl _ _⟩ | exact ⟨hS.2.2, Below.refl _ _⟩ | exact ⟨hS.1, hS.2.1, Below.refl _ _⟩ | exact ⟨⟨hS.1, hS.2.1⟩, Below.refl _ _⟩ | exact ⟨hS.1, hS.2.1, hS.2.2, Below.refl _ _⟩)
                    · (with_reducible refine Fix.of ?_ ?_; rfl; intro w' hS; have s0 := hS.1; have s1 := hS.2.1; unfold Oper.wp; go_simp; first | done | exact Below.refl _ _ | exact ⟨hS, Below.refl _ _⟩ | exact ⟨hS.2.2, Below.refl _ _⟩ | exact ⟨hS.1, hS.2.1, Below.refl _ _⟩ | exact ⟨⟨hS.1, hS.2.1⟩, Below.refl _ _⟩ | exact ⟨hS.1, hS.2.1, hS.2.2, Below.refl _ _⟩)
                    · (with_reducible refine Fix.of ?_ ?_; rfl; intro w' hS; have s0 := hS.1; have s1 := hS.2.1; unfold Oper.wp; go_simp; first | done | exact Below.refl _ _ | exact ⟨hS, Below.refl _ _⟩ | exact ⟨hS.2.2, Below.refl _ _⟩ | exact ⟨hS.1, hS.2.1, Below.refl _ _⟩ | exact ⟨⟨hS.1, hS.2.1⟩, Below.refl _ _⟩ | exact ⟨hS.1, hS.2.1, hS.2.2, Below.refl _ _⟩)
                    · (with_reducible refine Fix.of ?_ ?_; rfl; intro w' hS; have s0 := hS.1; have s1 := hS.2.1; unfold Oper.wp; go_simp; first | done | exact Below.refl _ _ | exact ⟨hS, Below.refl _ _⟩ | exact ⟨hS.2.2, Below.refl _ _⟩ | exact ⟨hS.1, hS.2.1, Below.refl _ _⟩ | exact ⟨⟨hS.1, hS.2.1⟩, Below.refl _ _⟩ | exact ⟨hS.1, hS.2.1, hS.2.2, Below.refl _ _⟩)
                    · (with_reducible refine Fix.of ?_ ?_; rfl; intro w' hS; have s0 := hS.1; have s1 := hS.2.1; unfold Oper.wp; go_simp; first | done | exact Below.refl _ _ | exact ⟨hS, Below.refl _ _⟩ | exact ⟨hS.2.2, Below.refl _ _⟩ | exact ⟨hS.1, hS.2.1, Below.refl _ _⟩ | exact ⟨⟨hS.1, hS.2.1⟩, Below.refl _ _⟩ | exact ⟨hS.1, hS.2.1, hS.2.2, Below.refl _ _⟩)
                    · (with_reducible refine Fix.of ?_ ?_; rfl; intro w' hS; have s0 := hS.1; have s1 := hS.2.1; unfold Oper.wp; go_simp; first | done | exact Below.refl _ _ | exact ⟨hS, Below.refl _ _⟩ | exact ⟨hS.2.2, Below.refl _ _⟩ | exact ⟨hS.1, hS.2.1, Below.refl _ _⟩ | exact ⟨⟨hS.1, hS.2.1⟩, Below.refl _ _⟩ | exact ⟨hS.1, hS.2.1, hS.2.2, Below.refl _ _⟩)
                    · (with_reducible refine Fix.of ?_ ?_; rfl; intro w' hS; have s0 := hS.1; have s1 := hS.2.1; unfold Oper.wp; go_simp; first | done | exact Below.refl _ _ | exact ⟨hS, Below.refl _ _⟩ | exact ⟨hS.2.2, Below.refl _ _⟩ | exact ⟨hS.1, hS.2.1, Below.refl _ _⟩ | exact ⟨⟨hS.1, hS.2.1⟩, Below.refl _ _⟩ | exact ⟨hS.1, hS.2.1, hS.2.2, Below.refl _ _⟩)
                    · (with_reducible refine Fix.of ?_ ?_; rfl; intro w' hS; have s0 := hS.1; have s1 := hS.2.1; unfold Oper.wp; go_simp; first | done | exact Below.refl _ _ | exact ⟨hS, Below.refl _ _⟩ | exact ⟨hS.2.2, Below.refl _ _⟩ | exact ⟨hS.1, hS.2.1, Below.refl _ _⟩ | exact ⟨⟨hS.1, hS.2.1⟩, Below.refl _ _⟩ | exact ⟨hS.1, hS.2.1, hS.2.2, Below.refl _ _⟩)
                    · (with_reducible refine Fix.of ?_ ?_; rfl; intro w' hS; have s3 := Lib.hid hS; unfold Oper.wp; clear hS; go_simp; refine (HP.out _).mono ?_; rintro e w1 ⟨rfl, hb⟩; exact ⟨rfl, ⟨s3.out.1.below hb s3.out.1.lt, s3.out.2.1.below hb s3.out.2.1.lt, s3.out.2.2.trans (hb.mono s3.out.2.2.size)⟩, hb⟩)
                    · (with_reducible refine Fix.of ?_ ?_; rfl; intro w' hS; have s0 := hS.1; have s1 := hS.2.1; unfold Oper.wp; go_simp; first | done | exact Below.refl _ _ | exact ⟨hS, Below.refl _ _⟩ | exact ⟨hS.2.2, Below.refl _ _⟩ | exact ⟨hS.1, hS.2.1, Below.refl _ _⟩ | exact ⟨⟨hS.1, hS.2.1⟩, Below.refl _ _⟩ | exact ⟨hS.1, hS.2.1, hS.2.2, Below.refl _ _⟩)
                    · (with_reducible refine Fix.of ?_ ?_; rfl; intro w' hS; have s0 := hS.1; have s1 := hS.2.1; unfold Oper.wp; go_simp; first | done | exact Below.refl _ _ | exact ⟨hS, Below.refl _ _⟩ | exact ⟨hS.2.2, Below.refl _ _⟩ | exact ⟨hS.1, hS.2.1, Below.refl _ _⟩ | exact ⟨⟨hS.1, hS.2.1⟩, Below.refl _ _⟩ | exact ⟨hS.1, hS.2.1, hS.2.2, Below.refl _ _⟩)
                    · (with_reducible refine Fix.of ?_ ?_; rfl; intro w' hS; have s0 := hS.1; have s1 := hS.2.1; unfold Oper.wp; go_simp; first | done | exact Below.refl _ _ | exact ⟨hS, Below.refl _ _⟩ | exact ⟨hS.2.2, Below.refl _ _⟩ | exact ⟨hS.1, hS.2.1, Below.refl _ _⟩ | exact ⟨⟨hS.1, hS.2.1⟩, Below.refl _ _⟩ | exact ⟨hS.1, hS.2.1, hS.2.2, Below.refl _ _⟩)
                    · (with_reducible refine Fix.of ?_ ?_; rfl; intro w' hS; have s0 := hS.1; have s1 := hS.2.1; unfold Oper.wp; go_simp; first | done | exact Below.refl _ _ | exact ⟨hS, Below.refl _ _⟩ | exact ⟨hS.2.2, Below.refl _ _⟩ | exact ⟨hS.1, hS.2.1, Below.refl _ _⟩ | exact ⟨⟨hS.1, hS.2.1⟩, Below.refl _ _⟩ | exact ⟨hS.1, hS.2.1, hS.2.2, Below.refl _ _⟩)
                  case hal =>
                    intro q
                    refine ⟨rfl, fun w' hS => ?_⟩
                    have s3 := Lib.hid hS
                    clear hS
                    unfold Oper.wp
                    go_simp
                    exact ⟨rfl, s3.out.1.alloc _, s3.out.2.1.alloc _, s3.out.2.2.alloc s3.out.2.2.size _⟩
                  case hst =>
                    intro q
                    refine ⟨rfl, fun w' hS hq hB => ?_⟩
                    have s3 := Lib.hid hS
                    clear hS
                    have d := hB.six
                    have z := hB.fr6
                    unfold Oper.wp
                    go_simp
                    have hq2 := hq
                    try simp only [World.size_alloc] at hq2
                    exact ⟨⟨s3.out.1.st6 (by first | omega | (have := hlt0; omega)) _, s3.out.2.1.st6 (by first | omega | (have := hlt1; omega)) _, below_st6 s3.out.2.2 (by first | omega | (have := s3.out.2.2.size; omega)) _⟩, hB.st6 _, below_st6 (Below.refl _ _) (by first | omega | (simp <;> omega)) _⟩
                  case hQ =>
                    intro q w' hS hq hB hbel
                    obtain ⟨d0, d1, d2, d3, d4, d5⟩ := hB.six
                    have Hbq := Lib.hid hS.2.2
                    clear hS hB hbel S0 hsz hlt0 hlt1 HP
                    go_wp2_with fail
                    refine (hasM9_any (some ⟨b4, o4, none⟩) NE c4 (elR L1 []) P w' HNE.out (HE_24.out.on Hbq.out) (by omega) HPE.out).mono ?_
                    rintro e w9 ⟨rfl, hb⟩
                    have Hb9 := Lib.hid (Hbq.out.trans (hb.mono Hbq.out.size))
                    clear hb d0 d1 d2 d3 d4 d5
                    go_wp2_with fail
                    go_roundw
                    case rel => exact ⟨k + 1, by omega, by go_num, Hb9.out⟩
                    case measure => simp [intOf]; omega
                · clear hbk
                  go_wp2_with fail
                  go_roundw
                  case rel => exact ⟨i + 1, by omega, by go_num, Hbk.out⟩
                  case measure => simp [intOf]; omega
            · have i2 : ¬ ((i : Int) < 20) := by omega
              go_wp2_with fail
              go_meet
              exact ⟨HB_24.out.trans (Hbi.out.mono HB_24.out.size), HL_24.out.on Hbi.out, F_24.out.on Hbi.out, HW_24.out.on Hbi.out⟩
          · have i1 : ¬ ((i : Int) < (NE : Int)) := by omega
            go_wp2_with fail
            go_meet
            exact ⟨HB_24.out.trans (Hbi.out.mono HB_24.out.size), HL_24.out.on Hbi.out, F_24.out.on Hbi.out, HW_24.out.on Hbi.out⟩
      · have g0 : (kE == 0) = false := by simpa using h0
        clear h0
        go_wp2_with fail
        go_meet
        exact ⟨HB_r1.out, HL_r1.out, F_r1.out, HW_r1.out⟩
    case rest =>
      clear HB_r1 HL_r1 F_r1 HW_r1 HE_r1 HR_r1 HZ_r1 HNE Hnr
      obtain ⟨hHB, hHL, hF, hHW⟩ := hcut
      have HB_r2 := Lib.hid hHB
      have HL_r2 := Lib.hid hHL
      have F_r2 := Lib.hid hF
      have HW_r2 := Lib.hid hHW
      clear hHB hHL hF hHW
      by_cases h0 : k1 = 0
      · have g1 : (k1 != 0) = false := by simpa using h0
        obtain ⟨b1, b2, b3⟩ := least_back (Hk1.out.trans h0)
        rw [Hnw.out, Hnl.out] at b3
        have z1 : (nw : Int) < (nl : Int) := by omega
        have HIb : Hid (∀ wx, RdM wx wx.heap.size A1 L1 → RdI wx wx.heap.size A2 (wfR L1 f) → Calls Tryz.prog 43 #[.slice A1 q1 c1, .slice A2 nw c2] wx fun e w' => e = .returned (.tuple #[.agg (mc f), I 0]) ∧ Below wx.heap.size wx w') := fun wx hr hv => by have h := ImplMapOfWord_any A1 A2 q1 c1 nw c2 L1 (wfR L1 f) wx hr hv Hq1.out.symm Hnw.out HN1.out (by omega) (by omega); rw [b1, b2] at h; exact h
        clear h0 b1 b2
        have heqf := eqMap_run f f
        rw [decide_eq_true rfl] at heqf
        go_wp2_with fail
        refine (HIb.out _ HL_r2.out HW_r2.out).mono ?_
        rintro e w23 ⟨rfl, hb⟩
        have HB_23 := Lib.hid (HB_r2.out.trans (hb.mono HB_r2.out.size))
        have HL_23 := Lib.hid (HL_r2.out.on hb)
        have F_23 := Lib.hid (F_r2.out.on hb)
        have HW_23 := Lib.hid (HW_r2.out.on hb)
        clear hb HB_r2 HL_r2 F_r2 HW_r2
        clear HIb
        have hb : Below w23.heap.size w23 (w23.alloc (.cells (mc f) 31)) := (Below.refl _ _).alloc (Nat.le_refl _) _
        have HB_24 := Lib.hid (HB_23.out.trans (hb.mono HB_23.out.size))
        have HL_24 := Lib.hid (HL_23.out.on hb)
        have F_24 := Lib.hid (F_23.out.on hb)
        have HW_24 := Lib.hid (HW_23.out.on hb)
        have Y_24 := Lib.hid (show Blk (w23.alloc (.cells (mc f) 31)) w23.heap.size 31 (mc f) from Blk.new _ _ _)
        clear hb HB_23 HL_23 F_23 HW_23
        obtain ⟨xF0, xF1, xF2, xF3, xF4, xF5⟩ := F_24.out.six
        obtain ⟨xY0, xY1, xY2, xY3, xY4, xY5⟩ := Y_24.out.six
        go_wp2
        go_ret
        exact ⟨rfl, HB_24.out⟩
      · have g1 : (k1 != 0) = true := by simpa using h0
        have hz : nw = 0 := by rw [← Hnw.out, wfR_out (by rw [Hk1.out]; exact h0)]; rfl
        subst hz
        clear h0
        go_wp2
        go_ret
        exact ⟨rfl, HB_r2.out⟩
end Go.Proofs.YtchjegojcpbfpaaGreat
