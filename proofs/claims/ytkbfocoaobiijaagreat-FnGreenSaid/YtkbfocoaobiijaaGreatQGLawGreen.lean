/- The walk of the statement on classes; the code lies below the heap's end. -/
import Derived.Test.YtkbfocoaobiijaaGreatQG13
import Derived.Deep.DeepCutAuto
import Derived.Deep.QuietTactic
import Derived.BigQuiet
set_option linter.unusedSimpArgs false
set_option linter.unusedVariables false
namespace Go.Proofs.YtkbfocoaobiijaaGreat
open Go.RowKit
set_option maxRecDepth 100000
set_option linter.unusedSimpArgs false
set_option linter.unusedVariables false
set_option maxHeartbeats 4000000 in
theorem lawGreen (A : Option Addr) (n c : Nat) (zs : List Int) (w : World) (hx : RdU w w.heap.size A zs) (hn : zs.length = n) :
    Calls Tryz.prog 4 #[.slice A n c] w fun e w' => e = .returned (.bool true) ∧ Below w.heap.size w w' := by
  by_cases hbig : 4096 < n
  · have HG : Hid (∀ w, Calls Tryz.prog 9 #[.slice A n c] w fun e w' => e = .returned (.bool true) ∧ Below w.heap.size w w') := fun w => by have h := big_any A n c w; rw [decide_eq_true hbig] at h; exact h
    clear hx
    go_enter Tryz.func4, Tryz.ntmps4
    go_wp2_with fail
    refine (HG.out w).mono ?_
    rintro e w1 ⟨rfl, hb⟩
    go_wp2
    go_ret
    exact ⟨rfl, hb⟩
  have HG : Hid (∀ w, Calls Tryz.prog 9 #[.slice A n c] w fun e w' => e = .returned (.bool false) ∧ Below w.heap.size w w') := fun w => by have h := big_any A n c w; rw [decide_eq_false hbig] at h; exact h
  have Hn := Lib.hid hn
  have HX_0 := Lib.hid hx
  have HB_0 := Lib.hid (Below.refl w.heap.size w)
  have hbd : n < 4611686018427387904 := by omega
  clear hx hbig hn
  go_enter Tryz.func4, Tryz.ntmps4
  go_wp2_with fail
  refine (HG.out w).mono ?_
  rintro e w1 ⟨rfl, hb⟩
  have HB_1 := Lib.hid (HB_0.out.trans (hb.mono HB_0.out.size))
  have HX_1 := Lib.hid (HX_0.out.on hb)
  clear hb HB_0 HX_0
  go_wp2_with fail
  refine (DrawCountClasses_any (A := A) (n := n) (c := c) w1 HX_1.out Hn.out hbd).mono ?_
  rintro e w2 ⟨A1, q1, c1, L1, rfl, hq, ho, hq7, hb⟩
  have HB_2 := Lib.hid (HB_1.out.trans (hb.mono HB_1.out.size))
  have HX_2 := Lib.hid (HX_1.out.on hb)
  have HL_2 := Lib.hid (ho.read)
  clear hb HB_1 HX_1
  have HN1 := Lib.hid ho.noneA
  have Hq1 := Lib.hid hq
  have hr1 : q1 < 536870912 := by omega
  clear hq ho hq7
  obtain ⟨cd, hcd⟩ : ∃ cd, monC L1 [] = cd := ⟨_, rfl⟩
  obtain ⟨nc, hnc⟩ : ∃ nc, (ccR L1).length = nc := ⟨_, rfl⟩
  have hnc4 : nc ≤ 4 := by rw [← hnc]; exact ccR_len L1
  have hcc : (cd != cd) = false := by simp
  have HI : Hid (∀ wx, RdM wx wx.heap.size A1 L1 → Calls Tryz.prog 37 #[.slice A1 q1 c1] wx (RetQ (ccR L1) nc cd wx)) := fun wx hr => (ImplCC_any A1 q1 c1 L1 wx hr Hq1.out.symm HN1.out hr1).mono fun e w' h => (RetI.toS h).toQ hnc hcd
  have HS : Hid (∀ wx, RdM wx wx.heap.size A1 L1 → Calls Tryz.prog 38 #[.slice A1 q1 c1] wx (RetQ (ccR L1) nc cd wx)) := fun wx hr => (SpecCC_any A1 q1 c1 L1 wx hr Hq1.out.symm (by omega)).mono fun e w' h => RetSI.toQ h hnc hcd
  have Hnc := Lib.hid hnc
  have Hcd := Lib.hid hcd
  clear hnc hcd
  go_wp2_with fail
  refine (HI.out w2 HL_2.out).mono ?_
  rintro e w3 ⟨A2, c2, rfl, hr, hb⟩
  have HB_3 := Lib.hid (HB_2.out.trans (hb.mono HB_2.out.size))
  have HX_3 := Lib.hid (HX_2.out.on hb)
  have HL_3 := Lib.hid (HL_2.out.on hb)
  have HR_3 := Lib.hid (hr)
  clear hb HB_2 HX_2 HL_2
  clear hr
  go_wp2_with fail
  refine (HS.out w3 HL_3.out).mono ?_
  rintro e w4 ⟨A3, c3, rfl, hr, hb⟩
  have HB_4 := Lib.hid (HB_3.out.trans (hb.mono HB_3.out.size))
  have HX_4 := Lib.hid (HX_3.out.on hb)
  have HL_4 := Lib.hid (HL_3.out.on hb)
  have HR_4 := Lib.hid (HR_3.out.on hb)
  have HS2_4 := Lib.hid (hr)
  clear hb HB_3 HX_3 HL_3 HR_3
  clear hr HI HS
  go_wp2_with fail
  refine (likeInts_same A2 A3 nc c2 c3 (ccR L1) w4 Hnc.out HR_4.out HS2_4.out (by omega)).mono ?_
  rintro e w5 ⟨rfl, hb⟩
  have HB_5 := Lib.hid (HB_4.out.trans (hb.mono HB_4.out.size))
  have HX_5 := Lib.hid (HX_4.out.on hb)
  have HL_5 := Lib.hid (HL_4.out.on hb)
  have HR_5 := Lib.hid (HR_4.out.on hb)
  clear hb HB_4 HX_4 HL_4 HR_4 HS2_4
  go_upto_if 72 with fail
  go_cut [] from 389 (fun wx => Below w.heap.size w wx ∧ RdU wx wx.heap.size A zs)
  case first =>
    by_cases h0 : cd = 0
    · subst h0
      obtain ⟨N, hG⟩ := green Hcd.out
      obtain ⟨nr, hnr⟩ : ∃ nr, (rcR L1).length = nr := ⟨_, rfl⟩
      obtain rfl : nc = 4 := Hnc.out.symm.trans hG.cc
      have hN := hG.n300
      have HK0 : Hid (∀ wx, RdM wx wx.heap.size A1 L1 → Calls Tryz.prog 39 #[.slice A1 q1 c1, I 0] wx (RetQ (cnR L1 0) N 0 wx)) := fun wx hr => (ImplCN_any A1 q1 c1 L1 0 wx hr Hq1.out.symm HN1.out hr1).mono fun e w' h => (RetI.toS h).toQ hG.l0 hG.c0
      have HK1 : Hid (∀ wx, RdM wx wx.heap.size A1 L1 → Calls Tryz.prog 39 #[.slice A1 q1 c1, I 1] wx (RetQ (cnR L1 1) N 0 wx)) := fun wx hr => (ImplCN_any A1 q1 c1 L1 1 wx hr Hq1.out.symm HN1.out hr1).mono fun e w' h => (RetI.toS h).toQ hG.l1 hG.c1
      have HK2 : Hid (∀ wx, RdM wx wx.heap.size A1 L1 → Calls Tryz.prog 39 #[.slice A1 q1 c1, I 2] wx (RetQ (cnR L1 2) N 0 wx)) := fun wx hr => (ImplCN_any A1 q1 c1 L1 2 wx hr Hq1.out.symm HN1.out hr1).mono fun e w' h => (RetI.toS h).toQ hG.l2 hG.c2
      have HK3 : Hid (∀ wx, RdM wx wx.heap.size A1 L1 → Calls Tryz.prog 39 #[.slice A1 q1 c1, I 3] wx (RetQ (cnR L1 3) N 0 wx)) := fun wx hr => (ImplCN_any A1 q1 c1 L1 3 wx hr Hq1.out.symm HN1.out hr1).mono fun e w' h => (RetI.toS h).toQ hG.l3 hG.c3
      have HKr : Hid (∀ wx, RdM wx wx.heap.size A1 L1 → Calls Tryz.prog 40 #[.slice A1 q1 c1] wx (RetQ (rcR L1) nr 0 wx)) := fun wx hr => (ImplRC_any A1 q1 c1 L1 wx hr Hq1.out.symm HN1.out hr1).mono fun e w' h => (RetI.toS h).toQ hnr Hcd.out
      have g3 : (gi (ccR L1) 3 != (nr : Int)) = false := by rw [hG.r3, hnr]; simp
      have a0 : decide (gi (ccR L1) 0 < gi (ccR L1) 3) = false := decide_eq_false (by have := hG.a0; omega)
      have a1 : decide (gi (ccR L1) 1 < gi (ccR L1) 3) = false := decide_eq_false (by have := hG.a1; omega)
      have a2 : decide (gi (ccR L1) 2 < gi (ccR L1) 0) = false := decide_eq_false (by have := hG.a2; omega)
      have a3 : decide (gi (ccR L1) 2 < gi (ccR L1) 1) = false := decide_eq_false (by have := hG.a3; omega)
      have hNN : ((N : Int) != (N : Int)) = false := by simp
      have HGr := Lib.hid hG
      clear hG hnr
      go_wp2_with fail
      refine (HK0.out w5 HL_5.out).mono ?_
      rintro e w6 ⟨A4, c4, rfl, hr, hb⟩
      have HB_6 := Lib.hid (HB_5.out.trans (hb.mono HB_5.out.size))
      have HX_6 := Lib.hid (HX_5.out.on hb)
      have HL_6 := Lib.hid (HL_5.out.on hb)
      have HR_6 := Lib.hid (HR_5.out.on hb)
      have Hl_6 := Lib.hid (hr)
      clear hb HB_5 HX_5 HL_5 HR_5
      clear hr HK0
      go_wp2_with fail
      refine (HK1.out w6 HL_6.out).mono ?_
      rintro e w7 ⟨A5, c5, rfl, hr, hb⟩
      have HB_7 := Lib.hid (HB_6.out.trans (hb.mono HB_6.out.size))
      have HX_7 := Lib.hid (HX_6.out.on hb)
      have HL_7 := Lib.hid (HL_6.out.on hb)
      have HR_7 := Lib.hid (HR_6.out.on hb)
      have Hl_7 := Lib.hid (Hl_6.out.on hb)
      have Hr_7 := Lib.hid (hr)
      clear hb HB_6 HX_6 HL_6 HR_6 Hl_6
      clear hr HK1
      go_wp2_with fail
      refine (HK2.out w7 HL_7.out).mono ?_
      rintro e w8 ⟨A6, c6, rfl, hr, hb⟩
      have HB_8 := Lib.hid (HB_7.out.trans (hb.mono HB_7.out.size))
      have HX_8 := Lib.hid (HX_7.out.on hb)
      have HL_8 := Lib.hid (HL_7.out.on hb)
      have HR_8 := Lib.hid (HR_7.out.on hb)
      have Hl_8 := Lib.hid (Hl_7.out.on hb)
      have Hr_8 := Lib.hid (Hr_7.out.on hb)
      have Hf_8 := Lib.hid (hr)
      clear hb HB_7 HX_7 HL_7 HR_7 Hl_7 Hr_7
      clear hr HK2
      go_wp2_with fail
      refine (HK3.out w8 HL_8.out).mono ?_
      rintro e w9 ⟨A7, c7, rfl, hr, hb⟩
      have HB_9 := Lib.hid (HB_8.out.trans (hb.mono HB_8.out.size))
      have HX_9 := Lib.hid (HX_8.out.on hb)
      have HL_9 := Lib.hid (HL_8.out.on hb)
      have HR_9 := Lib.hid (HR_8.out.on hb)
      have Hl_9 := Lib.hid (Hl_8.out.on hb)
      have Hr_9 := Lib.hid (Hr_8.out.on hb)
      have Hf_9 := Lib.hid (Hf_8.out.on hb)
      have Hj_9 := Lib.hid (hr)
      clear hb HB_8 HX_8 HL_8 HR_8 Hl_8 Hr_8 Hf_8
      clear hr HK3
      go_wp2_with fail
      refine (HKr.out w9 HL_9.out).mono ?_
      rintro e w10 ⟨A8, c8, rfl, hr, hb⟩
      have HB_10 := Lib.hid (HB_9.out.trans (hb.mono HB_9.out.size))
      have HX_10 := Lib.hid (HX_9.out.on hb)
      have HR_10 := Lib.hid (HR_9.out.on hb)
      have Hl_10 := Lib.hid (Hl_9.out.on hb)
      have Hr_10 := Lib.hid (Hr_9.out.on hb)
      have Hf_10 := Lib.hid (Hf_9.out.on hb)
      have Hj_10 := Lib.hid (Hj_9.out.on hb)
      clear hb HB_9 HX_9 HL_9 HR_9 Hl_9 Hr_9 Hf_9 Hj_9
      clear hr HKr
      obtain ⟨b2, off2, rfl, hb2, hcell⟩ := RdI.all HR_10.out (by rw [Hnc.out]; omega)
      rw [Hnc.out] at hcell
      have x0 := hcell 0 (by omega)
      rw [Nat.add_zero] at x0
      have x1 := hcell 1 (by omega)
      have x2 := hcell 2 (by omega)
      have x3 := hcell 3 (by omega)
      clear hcell
      have HM : Hid (Below w.heap.size w w10 ∧ RdU w10 w10.heap.size A zs ∧ RdI w10 w10.heap.size A4 (cnR L1 0) ∧ RdI w10 w10.heap.size A5 (cnR L1 1) ∧ RdI w10 w10.heap.size A6 (cnR L1 2) ∧ RdI w10 w10.heap.size A7 (cnR L1 3)) := ⟨HB_10.out, HX_10.out, Hl_10.out, Hr_10.out, Hf_10.out, Hj_10.out⟩
      clear Hn hbd HG HN1 Hq1 hr1 Hcd hnc4 Hnc HB_10 HX_10 HR_10 Hl_10 Hr_10 Hf_10 Hj_10
      go_upto_region 15 with fail
      go_cut [184] from 389 (fun b wx => b = .bool false ∧ Below w10.heap.size w10 wx)
      case first =>
        as_aux_lemma =>
          clear HM HGr hN
          go_quiet (fail)
          go_wp2_with fail
          go_meet
          exact ⟨rfl, (Below.refl _ _).drewN _⟩
      case rest =>
        clear x0 x1 x2 x3 g3 a0 a1 a2 a3 hNN
        obtain ⟨rfl, hbc⟩ := hcut
        have Hbc := Lib.hid hbc
        clear hbc
        go_wp2_with fail
        go_loopw [19] (fun i wr => ∃ k : Nat, k ≤ N ∧ i = .int .i64 k ∧ Below w10.heap.size w10 wr) (fun i _ => N - (intOf i).toNat)
        case atStart => exact ⟨0, by omega, rfl, Hbc.out⟩
        case round =>
          obtain ⟨i, hi, rfl, hbi⟩ := hrel
          have Hbi := Lib.hid hbi
          clear hbi Hbc
          by_cases hiN : i < N
          · have i1 : (i : Int) < (N : Int) := by omega
            by_cases hi40 : i < 40
            · have i2 : (i : Int) < 40 := by omega
              go_wp2_with fail
              go_loopw [20] (fun k wq => ∃ j : Nat, j ≤ i ∧ k = .int .i64 j ∧ Below w10.heap.size w10 wq) (fun k _ => i - (intOf k).toNat)
              case atStart => exact ⟨0, by omega, rfl, Hbi.out⟩
              case round =>
                obtain ⟨j, hj, rfl, hbj⟩ := hrel
                have Hbj := Lib.hid hbj
                clear Hbi
                by_cases hlt : j < i
                · have j1 : (j : Int) < (i : Int) := by omega
                  have j2 : (j : Int) < (N : Int) := by omega
                  obtain ⟨_, _, m0, m1, m2, m3⟩ := HM.out
                  obtain ⟨b4, o4, rfl, _, k4⟩ := RdI.all (m0.on hbj) (by rw [HGr.out.l0]; omega)
                  obtain ⟨b5, o5, rfl, _, k5⟩ := RdI.all (m1.on hbj) (by rw [HGr.out.l1]; omega)
                  obtain ⟨b6, o6, rfl, _, k6⟩ := RdI.all (m2.on hbj) (by rw [HGr.out.l2]; omega)
                  obtain ⟨b7, o7, rfl, _, k7⟩ := RdI.all (m3.on hbj) (by rw [HGr.out.l3]; omega)
                  have l4i := k4 i (by rw [HGr.out.l0]; omega)
                  have l4j := k4 j (by rw [HGr.out.l0]; omega)
                  have l5i := k5 i (by rw [HGr.out.l1]; omega)
                  have l5j := k5 j (by rw [HGr.out.l1]; omega)
                  have l6i := k6 i (by rw [HGr.out.l2]; omega)
                  have l6j := k6 j (by rw [HGr.out.l2]; omega)
                  have l7i := k7 i (by rw [HGr.out.l3]; omega)
                  have l7j := k7 j (by rw [HGr.out.l3]; omega)
                  have hfu := HGr.out.full i j hiN (by omega)
                  have hjo := HGr.out.join i j hiN (by omega)
                  clear k4 k5 k6 k7 m0 m1 m2 m3
                  generalize gi (cnR L1 0) i = li at *
                  generalize gi (cnR L1 0) j = lj at *
                  generalize gi (cnR L1 1) i = ri at *
                  generalize gi (cnR L1 1) j = rj at *
                  generalize gi (cnR L1 2) i = fi at *
                  generalize gi (cnR L1 2) j = fj at *
                  generalize gi (cnR L1 3) i = ji at *
                  generalize gi (cnR L1 3) j = jj at *
                  clear hbj hi hiN hi40 hj hN
                  go_upto_region 23 with fail
                  go_cut [261] from 389 (fun b wx => b = .bool false ∧ Below w10.heap.size w10 wx)
                  case first =>
                    clear HM HGr
                    by_cases ea : li = lj
                    · by_cases eb : ri = rj
                      · have ef : fi = fj := by simpa [ea, eb] using hfu.symm
                        have ej := hjo (.inl ea)
                        subst ea eb ef ej
                        clear hfu hjo
                        as_aux_lemma =>
                          go_quiet (fail)
                          go_wp2_with fail
                          go_meet
                          exact ⟨rfl, Hbj.out.drewN _⟩
                      · have ef : ¬ fi = fj := by simpa [ea, eb] using hfu.symm
                        have ej := hjo (.inl ea)
                        subst ea ej
                        have eb' : (ri == rj) = false := by simpa using eb
                        have ef' : (fi == fj) = false := by simpa using ef
                        clear hfu hjo eb ef
                        as_aux_lemma =>
                          go_quiet (fail)
                          go_wp2_with fail
                          go_meet
                          exact ⟨rfl, Hbj.out.drewN _⟩
                    · by_cases eb : ri = rj
                      · have ef : ¬ fi = fj := by simpa [ea, eb] using hfu.symm
                        have ej := hjo (.inr eb)
                        subst eb ej
                        have ea' : (li == lj) = false := by simpa using ea
                        have ef' : (fi == fj) = false := by simpa using ef
                        clear hfu hjo ea ef
                        as_aux_lemma =>
                          go_quiet (fail)
                          go_wp2_with fail
                          go_meet
                          exact ⟨rfl, Hbj.out.drewN _⟩
                      · have ef : ¬ fi = fj := by simpa [ea, eb] using hfu.symm
                        have ea' : (li == lj) = false := by simpa using ea
                        have eb' : (ri == rj) = false := by simpa using eb
                        have ef' : (fi == fj) = false := by simpa using ef
                        clear hfu hjo ea eb ef
                        as_aux_lemma =>
                          go_quiet (fail)
                          go_wp2_with fail
                          go_meet
                          exact ⟨rfl, Hbj.out.drewN _⟩
                  case rest =>
                    clear l4i l4j l5i l5j l6i l6j l7i l7j hfu hjo
                    obtain ⟨rfl, hbd⟩ := hcut
                    have hw : IntKind.i64.wrap ((j : Int) + 1) = ((j + 1 : Nat) : Int) := by rw [IntWalk.i64_in _ ⟨by omega, by omega⟩]; omega
                    go_wp2_with fail
                    go_roundw
                    case rel => exact ⟨j + 1, by omega, by go_num, hbd⟩
                    case measure => simp [intOf]; omega
                · clear hbj
                  go_wp2_with fail
                  go_roundw
                  case rel => exact ⟨i + 1, by omega, by go_num, Hbj.out⟩
                  case measure => simp [intOf]; omega
            · have i2 : ¬ (i : Int) < 40 := by omega
              go_wp2_with fail
              go_meet
              exact ⟨HM.out.1.trans (Hbi.out.mono HM.out.1.size), RdU.on HM.out.2.1 Hbi.out Hbi.out.size⟩
          · have i1 : ¬ (i : Int) < (N : Int) := by omega
            go_wp2_with fail
            go_meet
            exact ⟨HM.out.1.trans (Hbi.out.mono HM.out.1.size), RdU.on HM.out.2.1 Hbi.out Hbi.out.size⟩
    · have g0 : (cd == 0) = false := by simpa using h0
      clear h0
      go_wp2_with fail
      go_meet
      exact ⟨HB_5.out, HX_5.out⟩
  case rest =>
    as_aux_lemma =>
      clear HL_5 HR_5 HB_5 HX_5 HN1 Hq1 hr1 Hnc Hcd hnc4 hcc
      obtain ⟨hB, hX⟩ := hcut
      have HB_c := Lib.hid hB
      have HX_c := Lib.hid hX
      clear hB hX
      go_wp2_with fail
      refine (DrawGridOf_any (A := A) (n := n) (c := c) wc HX_c.out Hn.out hbd).mono ?_
      rintro e w6 ⟨A2, q2, c2, L2, f2, rfl, hq, ho, hq7, hb⟩
      have HB_6 := Lib.hid (HB_c.out.trans (hb.mono HB_c.out.size))
      have HX_6 := Lib.hid (HX_c.out.on hb)
      have HL_6 := Lib.hid (ho.read)
      clear hb HB_c HX_c
      have HN2 := Lib.hid ho.noneA
      have Hq2 := Lib.hid hq
      have hr2 : q2 < 536870912 := by omega
      clear hq ho hq7
      obtain ⟨cd2, hcd⟩ : ∃ cd, monC L2 [f2] = cd := ⟨_, rfl⟩
      obtain ⟨nc2, hnc⟩ : ∃ nc, (grR L2 f2).length = nc := ⟨_, rfl⟩
      have hnl2 : nc2 < 1073741824 := by rw [← hnc]; have := grR_len L2 f2; omega
      have hcc2 : (cd2 != cd2) = false := by simp
      have hce2 : (cd2 == cd2) = true := by simp
      have HI2 : Hid (∀ wx, RdM wx wx.heap.size A2 L2 → Calls Tryz.prog 42 #[.slice A2 q2 c2, .agg (mc f2)] wx (RetQ (grR L2 f2) nc2 cd2 wx)) := fun wx hr => (ImplGR_any A2 q2 c2 L2 f2 wx hr Hq2.out.symm HN2.out hr2).mono fun e w' h => (RetI.toS h).toQ hnc hcd
      have HS2 : Hid (∀ wx, RdM wx wx.heap.size A2 L2 → Calls Tryz.prog 43 #[.slice A2 q2 c2, .agg (mc f2)] wx (RetQ (grR L2 f2) nc2 cd2 wx)) := fun wx hr => (SpecGR_any A2 q2 c2 L2 f2 wx hr Hq2.out.symm (by omega)).mono fun e w' h => RetSI.toQ h hnc hcd
      have Hnc2 := Lib.hid hnc
      clear hnc hcd
      have hb : Below w6.heap.size w6 (w6.alloc (.cells (mc f2) 31)) := (Below.refl _ _).alloc (Nat.le_refl _) _
      have HB_7 := Lib.hid (HB_6.out.trans (hb.mono HB_6.out.size))
      have HX_7 := Lib.hid (HX_6.out.on hb)
      have HL_7 := Lib.hid (HL_6.out.on hb)
      have F_7 := Lib.hid (show Blk (w6.alloc (.cells (mc f2) 31)) w6.heap.size 31 (mc f2) from Blk.new _ _ _)
      clear hb HB_6 HX_6 HL_6
      obtain ⟨xF0, xF1, xF2, xF3, xF4, xF5⟩ := F_7.out.six
      go_wp2_with fail
      refine (HI2.out _ HL_7.out).mono ?_
      rintro e w8 ⟨A3, c3, rfl, hr, hb⟩
      have HB_8 := Lib.hid (HB_7.out.trans (hb.mono HB_7.out.size))
      have HX_8 := Lib.hid (HX_7.out.on hb)
      have HL_8 := Lib.hid (HL_7.out.on hb)
      have F_8 := Lib.hid (F_7.out.on hb)
      have Ha_8 := Lib.hid (hr)
      clear hb HB_7 HX_7 HL_7 F_7
      clear hr HI2
      clear xF0 xF1 xF2 xF3 xF4 xF5
      obtain ⟨xF0, xF1, xF2, xF3, xF4, xF5⟩ := F_8.out.six
      go_wp2_with fail
      refine (HS2.out _ HL_8.out).mono ?_
      rintro e w9 ⟨A4, c4, rfl, hr, hb⟩
      have HB_9 := Lib.hid (HB_8.out.trans (hb.mono HB_8.out.size))
      have HX_9 := Lib.hid (HX_8.out.on hb)
      have Ha_9 := Lib.hid (Ha_8.out.on hb)
      have Hb_9 := Lib.hid (hr)
      clear hb HB_8 HX_8 HL_8 F_8 Ha_8
      clear hr HS2
      clear xF0 xF1 xF2 xF3 xF4 xF5
      go_wp2_with fail
      refine (likeInts_same A3 A4 nc2 c3 c4 (grR L2 f2) w9 Hnc2.out Ha_9.out Hb_9.out hnl2).mono ?_
      rintro e w10 ⟨rfl, hb⟩
      have HB_10 := Lib.hid (HB_9.out.trans (hb.mono HB_9.out.size))
      have HX_10 := Lib.hid (HX_9.out.on hb)
      clear hb HB_9 HX_9 Ha_9 Hb_9
      clear HN2 Hq2 hr2
      go_wp2_with fail
      refine (DrawClassNumbers_any (A := A) (n := n) (c := c) w10 HX_10.out Hn.out hbd).mono ?_
      rintro e w11 ⟨A5, q5, c5, L5, k5, rfl, hq, ho, hq7, hb⟩
      have HB_11 := Lib.hid (HB_10.out.trans (hb.mono HB_10.out.size))
      have HX_11 := Lib.hid (HX_10.out.on hb)
      have HL_11 := Lib.hid (ho.read)
      clear hb HB_10 HX_10
      have HN5 := Lib.hid ho.noneA
      have Hq5 := Lib.hid hq
      have hr5 : q5 < 536870912 := by omega
      clear hq ho hq7
      obtain ⟨cd5, hcd⟩ : ∃ cd, cnC L5 [] k5 = cd := ⟨_, rfl⟩
      obtain ⟨nc5, hnc⟩ : ∃ nc, (cnR L5 k5).length = nc := ⟨_, rfl⟩
      have hnl5 : nc5 < 1073741824 := by rw [← hnc]; have := cnR_len L5 k5; omega
      have hcc5 : (cd5 != cd5) = false := by simp
      have hce5 : (cd5 == cd5) = true := by simp
      have HI5 : Hid (∀ wx, RdM wx wx.heap.size A5 L5 → Calls Tryz.prog 39 #[.slice A5 q5 c5, I k5] wx (RetQ (cnR L5 k5) nc5 cd5 wx)) := fun wx hr => (ImplCN_any A5 q5 c5 L5 k5 wx hr Hq5.out.symm HN5.out hr5).mono fun e w' h => (RetI.toS h).toQ hnc hcd
      have HS5 : Hid (∀ wx, RdM wx wx.heap.size A5 L5 → Calls Tryz.prog 45 #[.slice A5 q5 c5, I k5] wx (RetQ (cnR L5 k5) nc5 cd5 wx)) := fun wx hr => (SpecCN_any A5 q5 c5 L5 k5 wx hr Hq5.out.symm (by omega)).mono fun e w' h => RetSI.toQ h hnc hcd
      have Hnc5 := Lib.hid hnc
      clear hnc hcd
      go_wp2_with fail
      refine (HI5.out _ HL_11.out).mono ?_
      rintro e w12 ⟨A6, c6, rfl, hr, hb⟩
      have HB_12 := Lib.hid (HB_11.out.trans (hb.mono HB_11.out.size))
      have HX_12 := Lib.hid (HX_11.out.on hb)
      have HL_12 := Lib.hid (HL_11.out.on hb)
      have Ha_12 := Lib.hid (hr)
      clear hb HB_11 HX_11 HL_11
      clear hr HI5
      go_wp2_with fail
      refine (HS5.out _ HL_12.out).mono ?_
      rintro e w13 ⟨A7, c7, rfl, hr, hb⟩
      have HB_13 := Lib.hid (HB_12.out.trans (hb.mono HB_12.out.size))
      have HX_13 := Lib.hid (HX_12.out.on hb)
      have Ha_13 := Lib.hid (Ha_12.out.on hb)
      have Hb_13 := Lib.hid (hr)
      clear hb HB_12 HX_12 HL_12 Ha_12
      clear hr HS5 HN5 Hq5 hr5
      go_wp2_with fail
      refine (DrawRanksOfClasses_any (A := A) (n := n) (c := c) w13 HX_13.out Hn.out hbd).mono ?_
      rintro e w14 ⟨A8, q8, c8, L8, rfl, hq, ho, hq7, hb⟩
      have HB_14 := Lib.hid (HB_13.out.trans (hb.mono HB_13.out.size))
      have HX_14 := Lib.hid (HX_13.out.on hb)
      have Ha_14 := Lib.hid (Ha_13.out.on hb)
      have Hb_14 := Lib.hid (Hb_13.out.on hb)
      have HL_14 := Lib.hid (ho.read)
      clear hb HB_13 HX_13 Ha_13 Hb_13
      have HN8 := Lib.hid ho.noneA
      have Hq8 := Lib.hid hq
      have hr8 : q8 < 536870912 := by omega
      clear hq ho hq7
      obtain ⟨cd8, hcd⟩ : ∃ cd, monC L8 [] = cd := ⟨_, rfl⟩
      obtain ⟨nc8, hnc⟩ : ∃ nc, (rcR L8).length = nc := ⟨_, rfl⟩
      have hnl8 : nc8 < 1073741824 := by rw [← hnc]; have := rcR_len L8; omega
      have hcc8 : (cd8 != cd8) = false := by simp
      have hce8 : (cd8 == cd8) = true := by simp
      have HI8 : Hid (∀ wx, RdM wx wx.heap.size A8 L8 → Calls Tryz.prog 40 #[.slice A8 q8 c8] wx (RetQ (rcR L8) nc8 cd8 wx)) := fun wx hr => (ImplRC_any A8 q8 c8 L8 wx hr Hq8.out.symm HN8.out hr8).mono fun e w' h => (RetI.toS h).toQ hnc hcd
      have HS8 : Hid (∀ wx, RdM wx wx.heap.size A8 L8 → Calls Tryz.prog 47 #[.slice A8 q8 c8] wx (RetQ (rcR L8) nc8 cd8 wx)) := fun wx hr => (SpecRC_any A8 q8 c8 L8 wx hr Hq8.out.symm (by omega)).mono fun e w' h => RetSI.toQ h hnc hcd
      have Hnc8 := Lib.hid hnc
      clear hnc hcd
      go_wp2_with fail
      refine (HI8.out _ HL_14.out).mono ?_
      rintro e w15 ⟨A9, c9, rfl, hr, hb⟩
      have HB_15 := Lib.hid (HB_14.out.trans (hb.mono HB_14.out.size))
      have HX_15 := Lib.hid (HX_14.out.on hb)
      have Ha_15 := Lib.hid (Ha_14.out.on hb)
      have Hb_15 := Lib.hid (Hb_14.out.on hb)
      have HL_15 := Lib.hid (HL_14.out.on hb)
      have Hc_15 := Lib.hid (hr)
      clear hb HB_14 HX_14 Ha_14 Hb_14 HL_14
      clear hr HI8
      go_wp2_with fail
      refine (HS8.out _ HL_15.out).mono ?_
      rintro e w16 ⟨A10, c10, rfl, hr, hb⟩
      have HB_16 := Lib.hid (HB_15.out.trans (hb.mono HB_15.out.size))
      have HX_16 := Lib.hid (HX_15.out.on hb)
      have Ha_16 := Lib.hid (Ha_15.out.on hb)
      have Hb_16 := Lib.hid (Hb_15.out.on hb)
      have Hc_16 := Lib.hid (Hc_15.out.on hb)
      have Hd_16 := Lib.hid (hr)
      clear hb HB_15 HX_15 Ha_15 Hb_15 HL_15 Hc_15
      clear hr HS8 HN8 Hq8 hr8
      go_wp2_with fail
      refine (DrawAreAlike_any (A := A) (n := n) (c := c) w16 HX_16.out Hn.out hbd).mono ?_
      rintro e w17 ⟨A11, q11, c11, L11, f, g, k, rfl, hq, ho, hq7, hb⟩
      have HB_17 := Lib.hid (HB_16.out.trans (hb.mono HB_16.out.size))
      have HX_17 := Lib.hid (HX_16.out.on hb)
      have Ha_17 := Lib.hid (Ha_16.out.on hb)
      have Hb_17 := Lib.hid (Hb_16.out.on hb)
      have Hc_17 := Lib.hid (Hc_16.out.on hb)
      have Hd_17 := Lib.hid (Hd_16.out.on hb)
      have HL_17 := Lib.hid (ho.read)
      clear hb HB_16 HX_16 Ha_16 Hb_16 Hc_16 Hd_16
      have HN11 := Lib.hid ho.noneA
      have Hq11 := Lib.hid hq
      have hr11 : q11 < 536870912 := by omega
      clear hq ho hq7
      clear HX_17
      obtain ⟨ca, hca⟩ : ∃ ca, cnC L11 [f, g] k = ca := ⟨_, rfl⟩
      obtain ⟨r, hr0⟩ : ∃ r, aaR L11 f g k = r := ⟨_, rfl⟩
      have hce11 : (ca == ca) = true := by simp
      have hrr : (r == r) = true := by simp
      have HI11 : Hid (∀ wx, RdM wx wx.heap.size A11 L11 → Calls Tryz.prog 49 #[.slice A11 q11 c11, .agg (mc f), .agg (mc g), I k] wx fun e w' => e = .returned (.tuple #[.bool r, I ca]) ∧ Below wx.heap.size wx w') := fun wx hr => by have h := ImplAA_any A11 q11 c11 L11 f g k wx hr Hq11.out.symm HN11.out hr11; rw [hca, hr0] at h; exact h
      have HS11 : Hid (∀ wx, RdM wx wx.heap.size A11 L11 → Calls Tryz.prog 50 #[.slice A11 q11 c11, .agg (mc f), .agg (mc g), I k] wx fun e w' => e = .returned (.tuple #[.bool r, I ca]) ∧ Below wx.heap.size wx w') := fun wx hr => by have h := SpecAA_any A11 q11 c11 L11 f g k wx hr Hq11.out.symm (by omega); rw [hca, hr0] at h; exact h
      have HI12 : Hid (∀ wx, RdM wx wx.heap.size A11 L11 → Calls Tryz.prog 49 #[.slice A11 q11 c11, .agg (mc g), .agg (mc f), I k] wx fun e w' => e = .returned (.tuple #[.bool r, I ca]) ∧ Below wx.heap.size wx w') := fun wx hr => by have h := ImplAA_any A11 q11 c11 L11 g f k wx hr Hq11.out.symm HN11.out hr11; rw [cnC_comm, aaR_comm, hca, hr0] at h; exact h
      clear hca hr0
      have hb : Below w17.heap.size w17 (w17.alloc (.cells (mc f) 31)) := (Below.refl _ _).alloc (Nat.le_refl _) _
      have HB_18 := Lib.hid (HB_17.out.trans (hb.mono HB_17.out.size))
      have Ha_18 := Lib.hid (Ha_17.out.on hb)
      have Hb_18 := Lib.hid (Hb_17.out.on hb)
      have Hc_18 := Lib.hid (Hc_17.out.on hb)
      have Hd_18 := Lib.hid (Hd_17.out.on hb)
      have HL_18 := Lib.hid (HL_17.out.on hb)
      have F_18 := Lib.hid (show Blk (w17.alloc (.cells (mc f) 31)) w17.heap.size 31 (mc f) from Blk.new _ _ _)
      clear hb HB_17 Ha_17 Hb_17 Hc_17 Hd_17 HL_17
      have hb : Below (w17.alloc (.cells (mc f) 31)).heap.size (w17.alloc (.cells (mc f) 31)) ((w17.alloc (.cells (mc f) 31)).alloc (.cells (mc g) 31)) := (Below.refl _ _).alloc (Nat.le_refl _) _
      have HB_19 := Lib.hid (HB_18.out.trans (hb.mono HB_18.out.size))
      have Ha_19 := Lib.hid (Ha_18.out.on hb)
      have Hb_19 := Lib.hid (Hb_18.out.on hb)
      have Hc_19 := Lib.hid (Hc_18.out.on hb)
      have Hd_19 := Lib.hid (Hd_18.out.on hb)
      have HL_19 := Lib.hid (HL_18.out.on hb)
      have F_19 := Lib.hid (F_18.out.on hb)
      have G_19 := Lib.hid (show Blk ((w17.alloc (.cells (mc f) 31)).alloc (.cells (mc g) 31)) (w17.heap.size + 1) 31 (mc g) from Blk.new' _ _ _ (by simp))
      clear hb HB_18 Ha_18 Hb_18 Hc_18 Hd_18 HL_18 F_18
      obtain ⟨xF0, xF1, xF2, xF3, xF4, xF5⟩ := F_19.out.six
      obtain ⟨xG0, xG1, xG2, xG3, xG4, xG5⟩ := G_19.out.six
      go_wp2_with fail
      refine (HI11.out _ HL_19.out).mono ?_
      rintro e w20 ⟨rfl, hb⟩
      have HB_20 := Lib.hid (HB_19.out.trans (hb.mono HB_19.out.size))
      have Ha_20 := Lib.hid (Ha_19.out.on hb)
      have Hb_20 := Lib.hid (Hb_19.out.on hb)
      have Hc_20 := Lib.hid (Hc_19.out.on hb)
      have Hd_20 := Lib.hid (Hd_19.out.on hb)
      have HL_20 := Lib.hid (HL_19.out.on hb)
      have F_20 := Lib.hid (F_19.out.on hb)
      have G_20 := Lib.hid (G_19.out.on hb)
      clear hb HB_19 Ha_19 Hb_19 Hc_19 Hd_19 HL_19 F_19 G_19
      clear HI11
      clear xF0 xF1 xF2 xF3 xF4 xF5 xG0 xG1 xG2 xG3 xG4 xG5
      obtain ⟨xF0, xF1, xF2, xF3, xF4, xF5⟩ := F_20.out.six
      obtain ⟨xG0, xG1, xG2, xG3, xG4, xG5⟩ := G_20.out.six
      go_wp2_with fail
      refine (HS11.out _ HL_20.out).mono ?_
      rintro e w21 ⟨rfl, hb⟩
      have HB_21 := Lib.hid (HB_20.out.trans (hb.mono HB_20.out.size))
      have Ha_21 := Lib.hid (Ha_20.out.on hb)
      have Hb_21 := Lib.hid (Hb_20.out.on hb)
      have Hc_21 := Lib.hid (Hc_20.out.on hb)
      have Hd_21 := Lib.hid (Hd_20.out.on hb)
      have HL_21 := Lib.hid (HL_20.out.on hb)
      have F_21 := Lib.hid (F_20.out.on hb)
      have G_21 := Lib.hid (G_20.out.on hb)
      clear hb HB_20 Ha_20 Hb_20 Hc_20 Hd_20 HL_20 F_20 G_20
      clear HS11
      clear xF0 xF1 xF2 xF3 xF4 xF5 xG0 xG1 xG2 xG3 xG4 xG5
      obtain ⟨xF0, xF1, xF2, xF3, xF4, xF5⟩ := F_21.out.six
      obtain ⟨xG0, xG1, xG2, xG3, xG4, xG5⟩ := G_21.out.six
      go_wp2_with fail
      refine (HI12.out _ HL_21.out).mono ?_
      rintro e w22 ⟨rfl, hb⟩
      have HB_22 := Lib.hid (HB_21.out.trans (hb.mono HB_21.out.size))
      have Ha_22 := Lib.hid (Ha_21.out.on hb)
      have Hb_22 := Lib.hid (Hb_21.out.on hb)
      have Hc_22 := Lib.hid (Hc_21.out.on hb)
      have Hd_22 := Lib.hid (Hd_21.out.on hb)
      clear hb HB_21 Ha_21 Hb_21 Hc_21 Hd_21 HL_21 F_21 G_21
      clear HI12 HN11 Hq11 hr11
      clear xF0 xF1 xF2 xF3 xF4 xF5 xG0 xG1 xG2 xG3 xG4 xG5
      go_wp2_with fail
      refine (likeInts_same A6 A7 nc5 c6 c7 (cnR L5 k5) w22 Hnc5.out Ha_22.out Hb_22.out hnl5).mono ?_
      rintro e w23 ⟨rfl, hb⟩
      have HB_23 := Lib.hid (HB_22.out.trans (hb.mono HB_22.out.size))
      have Hc_23 := Lib.hid (Hc_22.out.on hb)
      have Hd_23 := Lib.hid (Hd_22.out.on hb)
      clear hb HB_22 Ha_22 Hb_22 Hc_22 Hd_22
      go_wp2_with fail
      refine (likeInts_same A9 A10 nc8 c9 c10 (rcR L8) w23 Hnc8.out Hc_23.out Hd_23.out hnl8).mono ?_
      rintro e w24 ⟨rfl, hb⟩
      have HB_24 := Lib.hid (HB_23.out.trans (hb.mono HB_23.out.size))
      clear hb HB_23 Hc_23 Hd_23
      by_cases hz : ca = 0
      · have z1 : (ca != 0) = false := by simpa using hz
        have z2 : (ca == 0) = true := by simpa using hz
        clear hz
        go_wp2
        go_ret
        exact ⟨rfl, HB_24.out⟩
      · have z1 : (ca != 0) = true := by simpa using hz
        clear hz
        go_wp2
        go_ret
        exact ⟨rfl, HB_24.out⟩
end Go.Proofs.YtkbfocoaobiijaaGreat
