/- The walk of the statement on groups; the code lies below the heap's end. -/
import Derived.Test.YtkbfocoaobiijaaGreatQG14
import Derived.Deep.DeepCutAuto
import Derived.Deep.QuietTactic
import Derived.BigQuiet
set_option linter.unusedSimpArgs false
set_option linter.unusedVariables false
namespace Go.Proofs.YtkbfocoaobiijaaGreat
open Go.RowKit
set_option maxRecDepth 100000
set_option linter.unusedSimpArgs false
set_option linter.unusedVariables false
def anyTo (P : Nat → Bool) (k : Nat) : Bool := (List.range k).any P
theorem anyTo_succ (P : Nat → Bool) (k : Nat) : anyTo P (k + 1) = (anyTo P k || P k) := by
  unfold anyTo; rw [List.range_succ, List.any_append]; simp
theorem anyTo_true {P : Nat → Bool} {k j : Nat} (hj : j < k) (h : P j = true) : anyTo P k = true := by
  unfold anyTo; rw [List.any_eq_true]; exact ⟨j, List.mem_range.2 hj, h⟩
set_option maxHeartbeats 4000000 in
theorem lawGroups (A : Option Addr) (n c : Nat) (zs : List Int) (w : World) (hx : RdU w w.heap.size A zs) (hn : zs.length = n) :
    Calls Tryz.prog 5 #[.slice A n c] w fun e w' => e = .returned (.bool true) ∧ Below w.heap.size w w' := by
  by_cases hbig : 4096 < n
  · have HG : Hid (∀ w, Calls Tryz.prog 9 #[.slice A n c] w fun e w' => e = .returned (.bool true) ∧ Below w.heap.size w w') := fun w => by have h := big_any A n c w; rw [decide_eq_true hbig] at h; exact h
    clear hx
    go_enter Tryz.func5, Tryz.ntmps5
    go_wp2_with fail
    refine (HG.out w).mono ?_
    rintro e w1 ⟨rfl, hb⟩
    go_wp2
    go_ret
    exact ⟨rfl, hb⟩
  have HG : Hid (∀ w, Calls Tryz.prog 9 #[.slice A n c] w fun e w' => e = .returned (.bool false) ∧ Below w.heap.size w w') := fun w => by have h := big_any A n c w; rw [decide_eq_false hbig] at h; exact h
  have Hn := Lib.hid hn
  have HX_0 := Lib.hid hx
  have HB_0 := Lib.hid (Below.refl w.heap.size w)
  have hbd : n < 4611686018427387904 := by omega
  clear hx hbig hn
  go_enter Tryz.func5, Tryz.ntmps5
  go_wp2_with fail
  refine (HG.out w).mono ?_
  rintro e w1 ⟨rfl, hb⟩
  have HB_1 := Lib.hid (HB_0.out.trans (hb.mono HB_0.out.size))
  have HX_1 := Lib.hid (HX_0.out.on hb)
  clear hb HB_0 HX_0
  clear HG
  go_wp2_with fail
  refine (DrawGroupWith_any (A := A) (n := n) (c := c) w1 HX_1.out Hn.out hbd).mono ?_
  rintro e w2 ⟨A1, q1, c1, L1, f, rfl, hq, ho, hq7, hb⟩
  have HB_2 := Lib.hid (HB_1.out.trans (hb.mono HB_1.out.size))
  have HX_2 := Lib.hid (HX_1.out.on hb)
  have HL_2 := Lib.hid (ho.read)
  clear hb HB_1 HX_1
  have HN1 := Lib.hid ho.noneA
  have Hq1 := Lib.hid hq
  have hr1 : q1 < 536870912 := by omega
  clear hq ho hq7
  obtain ⟨cd, hcd⟩ : ∃ cd, gwC L1 f = cd := ⟨_, rfl⟩
  obtain ⟨ng, hng⟩ : ∃ ng, (gwR L1 f).length = ng := ⟨_, rfl⟩
  obtain ⟨cr, hcr⟩ : ∃ cr, monC L1 [f] = cr := ⟨_, rfl⟩
  obtain ⟨br, hbr⟩ : ∃ br, irgR L1 f = br := ⟨_, rfl⟩
  have hngl : ng ≤ 300 := by rw [← hng]; exact gwR_len L1 f
  have e1 : (cd != cd) = false := by simp
  have e2 : (cr != cr) = false := by simp
  have e3 : (br != br) = false := by simp
  have HIg : Hid (∀ wx, RdM wx wx.heap.size A1 L1 → Calls Tryz.prog 52 #[.slice A1 q1 c1, .agg (mc f)] wx (RetR (gwR L1 f) ng cd wx)) := fun wx hr => (ImplGW_any A1 q1 c1 L1 f wx hr Hq1.out.symm HN1.out hr1).mono fun e w' h => (RetM.toS h).toR hng hcd
  have HSg : Hid (∀ wx, RdM wx wx.heap.size A1 L1 → Calls Tryz.prog 53 #[.slice A1 q1 c1, .agg (mc f)] wx (RetR (gwR L1 f) ng cd wx)) := fun wx hr => (SpecGW_any A1 q1 c1 L1 f wx hr Hq1.out.symm (by omega)).mono fun e w' h => RetS.toR h hng hcd
  have HIr : Hid (∀ wx, RdM wx wx.heap.size A1 L1 → Calls Tryz.prog 54 #[.slice A1 q1 c1, .agg (mc f)] wx fun e w' => e = .returned (.tuple #[.bool br, I cr]) ∧ Below wx.heap.size wx w') := fun wx hr => by have h := ImplIsRegular_any A1 q1 c1 L1 f wx hr Hq1.out.symm HN1.out hr1; rw [hbr, hcr] at h; exact h
  have HSr : Hid (∀ wx, RdM wx wx.heap.size A1 L1 → Calls Tryz.prog 55 #[.slice A1 q1 c1, .agg (mc f)] wx fun e w' => e = .returned (.tuple #[.bool br, I cr]) ∧ Below wx.heap.size wx w') := fun wx hr => by have h := SpecIsRegular_any A1 q1 c1 L1 f wx hr Hq1.out.symm (by omega); rw [hbr, hcr] at h; exact h
  have Hcd := Lib.hid hcd
  have Hng := Lib.hid hng
  have Hbr := Lib.hid hbr
  clear hcd hng hcr hbr
  have hb : Below w2.heap.size w2 (w2.alloc (.cells (mc f) 31)) := (Below.refl _ _).alloc (Nat.le_refl _) _
  have HB_3 := Lib.hid (HB_2.out.trans (hb.mono HB_2.out.size))
  have HX_3 := Lib.hid (HX_2.out.on hb)
  have HL_3 := Lib.hid (HL_2.out.on hb)
  have F_3 := Lib.hid (show Blk (w2.alloc (.cells (mc f) 31)) w2.heap.size 31 (mc f) from Blk.new _ _ _)
  clear hb HB_2 HX_2 HL_2
  obtain ⟨xF0, xF1, xF2, xF3, xF4, xF5⟩ := F_3.out.six
  go_wp2_with fail
  refine (HIg.out _ HL_3.out).mono ?_
  rintro e w4 ⟨A2, c2, rfl, hr, hb⟩
  have HB_4 := Lib.hid (HB_3.out.trans (hb.mono HB_3.out.size))
  have HX_4 := Lib.hid (HX_3.out.on hb)
  have HL_4 := Lib.hid (HL_3.out.on hb)
  have F_4 := Lib.hid (F_3.out.on hb)
  have Ha_4 := Lib.hid (hr)
  clear hb HB_3 HX_3 HL_3 F_3
  clear hr HIg
  clear xF0 xF1 xF2 xF3 xF4 xF5
  obtain ⟨xF0, xF1, xF2, xF3, xF4, xF5⟩ := F_4.out.six
  go_wp2_with fail
  refine (HSg.out _ HL_4.out).mono ?_
  rintro e w5 ⟨A3, c3, rfl, hr, hb⟩
  have HB_5 := Lib.hid (HB_4.out.trans (hb.mono HB_4.out.size))
  have HX_5 := Lib.hid (HX_4.out.on hb)
  have HL_5 := Lib.hid (HL_4.out.on hb)
  have F_5 := Lib.hid (F_4.out.on hb)
  have Ha_5 := Lib.hid (Ha_4.out.on hb)
  have Hb_5 := Lib.hid (hr)
  clear hb HB_4 HX_4 HL_4 F_4 Ha_4
  clear hr HSg
  clear xF0 xF1 xF2 xF3 xF4 xF5
  obtain ⟨xF0, xF1, xF2, xF3, xF4, xF5⟩ := F_5.out.six
  go_wp2_with fail
  refine (HIr.out _ HL_5.out).mono ?_
  rintro e w6 ⟨rfl, hb⟩
  have HB_6 := Lib.hid (HB_5.out.trans (hb.mono HB_5.out.size))
  have HX_6 := Lib.hid (HX_5.out.on hb)
  have HL_6 := Lib.hid (HL_5.out.on hb)
  have F_6 := Lib.hid (F_5.out.on hb)
  have Ha_6 := Lib.hid (Ha_5.out.on hb)
  have Hb_6 := Lib.hid (Hb_5.out.on hb)
  clear hb HB_5 HX_5 HL_5 F_5 Ha_5 Hb_5
  clear HIr
  clear xF0 xF1 xF2 xF3 xF4 xF5
  obtain ⟨xF0, xF1, xF2, xF3, xF4, xF5⟩ := F_6.out.six
  go_wp2_with fail
  refine (HSr.out _ HL_6.out).mono ?_
  rintro e w7 ⟨rfl, hb⟩
  have HB_7 := Lib.hid (HB_6.out.trans (hb.mono HB_6.out.size))
  have HX_7 := Lib.hid (HX_6.out.on hb)
  have F_7 := Lib.hid (F_6.out.on hb)
  have Ha_7 := Lib.hid (Ha_6.out.on hb)
  have Hb_7 := Lib.hid (Hb_6.out.on hb)
  clear hb HB_6 HX_6 HL_6 F_6 Ha_6 Hb_6
  clear HSr HN1 Hq1 hr1
  clear xF0 xF1 xF2 xF3 xF4 xF5
  go_upto_region 8 with fail
  go_cut [105] from 314 (fun b wx => b = .bool false ∧ Below w.heap.size w wx ∧ RdU wx wx.heap.size A zs ∧ Blk wx w2.heap.size 31 (mc f) ∧ RdM wx wx.heap.size A2 (gwR L1 f))
  case first =>
    go_wp2_with fail
    refine (maps5_same A2 A3 ng c2 c3 (gwR L1 f) w7 Hng.out Ha_7.out Hb_7.out (by omega)).mono ?_
    rintro e w8 ⟨rfl, hb⟩
    have HB_8 := Lib.hid (HB_7.out.trans (hb.mono HB_7.out.size))
    have HX_8 := Lib.hid (HX_7.out.on hb)
    have F_8 := Lib.hid (F_7.out.on hb)
    have Ha_8 := Lib.hid (Ha_7.out.on hb)
    clear hb HB_7 HX_7 F_7 Ha_7 Hb_7
    by_cases h0 : cd = 0
    · have hbr1 : br = true := by
        have := (group (Hcd.out.trans h0)).2
        rw [Hbr.out] at this; exact this
      have g0 : (cd == 0) = true := by simpa using h0
      subst hbr1
      clear h0
      go_wp2_with fail
      go_meet
      exact ⟨rfl, HB_8.out, HX_8.out, F_8.out, Ha_8.out⟩
    · have g0 : (cd == 0) = false := by simpa using h0
      clear h0
      go_wp2_with fail
      go_meet
      exact ⟨rfl, HB_8.out, HX_8.out, F_8.out, Ha_8.out⟩
  case rest =>
    clear HB_7 HX_7 F_7 Ha_7 Hb_7 e1 e2 e3 Hbr
    obtain ⟨rfl, hHB, hHX, hF, hHa⟩ := hcut
    have HB_r7 := Lib.hid hHB
    have HX_r7 := Lib.hid hHX
    have F_r7 := Lib.hid hF
    have Ha_r7 := Lib.hid hHa
    clear hHB hHX hF hHa
    go_upto_if 107 with fail
    go_cut [107] from 314 (fun _ wx => Below w.heap.size w wx ∧ RdU wx wx.heap.size A zs)
    case first =>
      by_cases h0 : cd = 0
      · have g0 : (cd == 0) = true := by simpa using h0
        as_aux_lemma =>
          obtain ⟨G, hG⟩ : ∃ G, gwR L1 f = G := ⟨_, rfl⟩
          have HGp := Lib.hid (group (Hcd.out.trans h0)).1
          rw [hG] at HGp
          have hGn : G.length = ng := by rw [← hG]; exact Hng.out
          have HGn := Lib.hid hGn
          have hmf : isMap f = true := (isMap_iff f).2 HGp.out.vf
          obtain ⟨u, hu⟩ : ∃ u, pw f 60 = u := ⟨_, rfl⟩
          have HIp : Hid (∀ wx, Calls Tryz.prog 57 #[.agg (mc f)] wx fun e w' => e = .returned (.tuple #[.agg (mc u), I 0]) ∧ Below wx.heap.size wx w') := fun wx => by have h := ImplIdemPower_any f wx; rw [(ipR_good hmf).1, (ipR_good hmf).2, hu] at h; exact h
          have HPr : Hid (∀ a b wx, a ∈ G → b ∈ G → Calls Tryz.prog 35 #[.agg (mc a), .agg (mc b)] wx fun e w' => e = .returned (.tuple #[.agg (mc (mul a b)), I 0]) ∧ Below wx.heap.size wx w') := fun a b wx ha hb => by
            have h := ImplProduct_any a b wx
            have ha := HGp.out.ok a ha
            have hb := HGp.out.ok b hb
            have hl : like a b = true := like_iff.2 ⟨ha.1, hb.1, by rw [ha.2, hb.2]⟩
            rw [(codeLike_like a b).1 hl] at h
            unfold mulR at h
            rw [if_pos hl] at h
            exact h
          have HPu : Hid (∀ a wx, a ∈ G → Calls Tryz.prog 35 #[.agg (mc a), .agg (mc u)] wx fun e w' => e = .returned (.tuple #[.agg (mc a), I 0]) ∧ Below wx.heap.size wx w') := fun a wx ha => by
            have h := ImplProduct_any a u wx
            have hl : like a u = true := like_iff.2 ⟨(HGp.out.ok a ha).1, by rw [← hu]; exact HGp.out.vu, by rw [(HGp.out.ok a ha).2, ← hu, HGp.out.pu]⟩
            rw [(codeLike_like a u).1 hl] at h
            unfold mulR at h
            rw [if_pos hl, ← hu, HGp.out.unit a ha, hu] at h
            exact h
          have HMul : Hid (∀ a ∈ G, ∀ b ∈ G, mul a b ∈ G) := HGp.out.mulG
          have HInv : Hid (∀ a ∈ G, ∃ b ∈ G, mul a b = u) := by intro a ha; have := HGp.out.inv a ha; rw [hu] at this; exact this
          have HAg : Hid (RdM wc wc.heap.size A2 G) := by have := Ha_r7.out; rw [hG] at this; exact this
          have hgmem : ∀ k, k < ng → gm G k ∈ G := fun k hk => by rw [gm_eq (by omega)]; exact List.getElem_mem _
          have HMem := Lib.hid hgmem
          clear hG HGp hGn hmf hu Ha_r7 h0 hgmem Hcd Hng
          obtain ⟨xF0, xF1, xF2, xF3, xF4, xF5⟩ := F_r7.out.six
          go_wp2_with fail
          refine (HIp.out _).mono ?_
          rintro e w8 ⟨rfl, hb⟩
          have HB_8 := Lib.hid (HB_r7.out.trans (hb.mono HB_r7.out.size))
          have HX_8 := Lib.hid (HX_r7.out.on hb)
          have Hg_8 := Lib.hid (HAg.out.on hb)
          clear hb HB_r7 HX_r7 F_r7 HAg
          clear HIp
          clear xF0 xF1 xF2 xF3 xF4 xF5
          have hb : Below w8.heap.size w8 (w8.alloc (.cells (mc u) 31)) := (Below.refl _ _).alloc (Nat.le_refl _) _
          have HB_9 := Lib.hid (HB_8.out.trans (hb.mono HB_8.out.size))
          have HX_9 := Lib.hid (HX_8.out.on hb)
          have Hg_9 := Lib.hid (Hg_8.out.on hb)
          have Uu_9 := Lib.hid (show Blk (w8.alloc (.cells (mc u) 31)) w8.heap.size 31 (mc u) from Blk.new _ _ _)
          clear hb HB_8 HX_8 Hg_8
          go_wp2_with fail
          obtain ⟨W0, hW0⟩ : ∃ W0, W0 = (w8.alloc (.cells (mc u) 31)) := ⟨_, rfl⟩
          rw [← hW0] at HB_9 HX_9 Hg_9 Uu_9
          rw [← hW0]
          clear hW0
          have HU0 := Lib.hid (Uu_9.out)
          have HG0 := Lib.hid (Hg_9.out)
          have HBX : Hid (Below w.heap.size w W0 ∧ RdU W0 W0.heap.size A zs) := ⟨HB_9.out, HX_9.out⟩
          clear HB_9 HX_9 Hg_9 Uu_9
          generalize w8.heap.size = ub at *
          go_loopw [15] (fun i wr => ∃ k : Nat, k ≤ ng ∧ i = .int .i64 k ∧ Below W0.heap.size W0 wr) (fun i _ => ng - (intOf i).toNat)
          case atStart => exact ⟨0, by omega, rfl, Below.refl _ _⟩
          case round =>
            obtain ⟨i, hi, rfl, hbi⟩ := hrel
            have Hbi := Lib.hid hbi
            clear hbi
            by_cases hiN : i < ng
            · have i1 : (i : Int) < (ng : Int) := by omega
              by_cases hi12 : i < 12
              · have i2 : (i : Int) < 12 := by omega
                obtain ⟨a, ha⟩ : ∃ a, a = gm G i := ⟨_, rfl⟩
                have haG : Hid (a ∈ G) := by show a ∈ G; rw [ha]; exact HMem.out i hiN
                obtain ⟨Fd, hFd⟩ : ∃ Fd : Nat → Bool, Fd = fun j => decide (mul a (gm G j) = u) := ⟨_, rfl⟩
                have HFd := Lib.hid hFd
                have Hal := Lib.hid ha
                clear hFd ha
                go_wp2_with fail
                go_loopw [16, 17] (fun b j wq => ∃ k : Nat, k ≤ ng ∧ j = .int .i64 k ∧ b = .bool (anyTo Fd k) ∧ Below W0.heap.size W0 wq) (fun _ j _ => ng - (intOf j).toNat)
                case atStart => exact ⟨0, by omega, rfl, rfl, Hbi.out⟩
                case round =>
                  obtain ⟨k, hk, rfl, rfl, hbk⟩ := hrel
                  have Hbk := Lib.hid hbk
                  clear Hbi
                  by_cases hkN : k < ng
                  · have k1 : (k : Int) < (ng : Int) := by omega
                    have k0 : (0 : Int) ≤ (k : Int) := by omega
                    have i0 : (0 : Int) ≤ (i : Int) := by omega
                    obtain ⟨b2, o2, rfl, hb2, s2⟩ := RdM.at_ (HG0.out.on hbk) (k := i) (by rw [HGn.out]; exact hiN)
                    obtain ⟨_, _, e, _, s3⟩ := RdM.at_ (HG0.out.on hbk) (k := k) (by rw [HGn.out]; exact hkN)
                    injection e with e
                    injection e with e3 e4 _
                    subst e3 e4
                    obtain ⟨p, hp⟩ : ∃ p, p = mul a (gm G k) := ⟨_, rfl⟩
                    have hpG : Hid (p ∈ G) := by show p ∈ G; rw [hp]; exact HMul.out a haG.out _ (HMem.out k hkN)
                    have HFk : Hid (anyTo Fd (k + 1) = (anyTo Fd k || decide (p = u))) := by show _ = _; rw [anyTo_succ, HFd.out, hp]
                    obtain ⟨d, hd⟩ : ∃ d, d = gm G k := ⟨_, rfl⟩
                    have hdG : Hid (d ∈ G) := by show d ∈ G; rw [hd]; exact HMem.out k hkN
                    rw [← hd] at s3 hp
                    rw [← Hal.out] at s2
                    have HPc : Hid (∀ wx, Calls Tryz.prog 35 #[.agg (mc a), .agg (mc d)] wx fun e w' => e = .returned (.tuple #[.agg (mc p), I 0]) ∧ Below wx.heap.size wx w') := fun wx => by have h := HPr.out a d wx haG.out hdG.out; rw [← hp] at h; exact h
                    have hlt0 : b2 < wr.heap.size := hb2
                    have hlt1 : b2 < wr.heap.size := hb2
                    have S0 : Hid (SixAt wr b2 (o2 + i * 6) a ∧ SixAt wr b2 (o2 + k * 6) d ∧ Below W0.heap.size W0 wr) := ⟨s2, s3, hbk⟩
                    have hsz := hbk.size
                    clear hp hd s2 s3 hbk
                    go_wp2_with fail
                    refine wp_region_box [] rfl (by kernel_rfl) (by kernel_rfl) (by kernel_rfl) (fun w' => SixAt w' (b2) (o2 + i * 6) (a) ∧ SixAt w' (b2) (o2 + k * 6) (d) ∧ Below W0.heap.size W0 w') _
                      (fun q => [.slice (some ⟨b2, o2, none⟩) ng c2, I i, .pointer (some ⟨b2, o2 + i * 6, none⟩), .agg (mc a), .slice (some ⟨b2, o2, none⟩) ng c2, I k, .pointer (some ⟨b2, o2 + k * 6, none⟩), .agg (mc d), .tuple #[.agg (mc p), I 0], .tuple #[.agg (mc p), I 0], .agg (mc p), I 0, .pointer (some ⟨q, 0, none⟩), undef, I 0]) (by intro q; simp only [putAll, List.setIfInBounds_toArray, List.set_cons_succ, List.set_cons_zero]; rfl) ?hS 12 13 18 _ _ rfl rfl 31 (mc M0) (mc (p)) (by kernel_rfl) (by kernel_rfl) (by decide) (fun _ _ => rfl) ?hop ?hal ?hst ?hQ
                    case hS => exact ⟨SixAt.below S0.out.1 (Below.refl _ _).drew hb2, SixAt.below S0.out.2.1 (Below.refl _ _).drew hb2, S0.out.2.2.drew⟩
                    case hop =>
                      intro q
                      refine ⟨.inr ?_, .inr ?_, .inr ?_, .inr ?_, .inr ?_, .inr ?_, .inr ?_, .inr ?_, .inr ?_, .inr ?_, .inr ?_, .inr ?_, .inl rfl, .inl rfl, .inr ?_, trivial⟩
                      · (with_reducible refine Fix.of ?_ ?_; rfl; intro w' hS; have s0 := hS.1; have s1 := hS.2.1; unfold Oper.wp; go_simp; first | done | exact Below.refl _ _ | exact ⟨hS, Below.refl _ _⟩ | exact ⟨hS.2.2, Below.refl _ _⟩ | exact ⟨hS.1, hS.2.1, Below.refl _ _⟩ | exact ⟨⟨hS.1, hS.2.1⟩, Below.refl _ _⟩ | exact ⟨hS.1, hS.2.1, hS.2.2, Below.refl _ _⟩)
                      · (with_reducible refine Fix.of ?_ ?_; rfl; intro w' hS; have s0 := hS.1; have s1 := hS.2.1; unfold Oper.wp; go_simp; first | done | exact Below.refl _ _ | exact ⟨hS, Below.refl _ _⟩ | exact ⟨hS.2.2, Below.refl _ _⟩ | exact ⟨hS.1, hS.2.1, Below.refl _ _⟩ | exact ⟨⟨hS.1, hS.2.1⟩, Below.refl _ _⟩ | exact ⟨hS.1, hS.2.1, hS.2.2, Below.refl _ _⟩)
                      · (with_reducible refine Fix.of ?_ ?_; rfl; intro w' hS; have s0 := hS.1; have s1 := hS.2.1; unfold Oper.wp; go_simp; first | done | exact Below.refl _ _ | exact ⟨hS, Below.refl _ _⟩ | exact ⟨hS.2.2, Below.refl _ _⟩ | exact ⟨hS.1, hS.2.1, Below.refl _ _⟩ | exact ⟨⟨hS.1, hS.2.1⟩, Below.refl _ _⟩ | exact ⟨hS.1, hS.2.1, hS.2.2, Below.refl _ _⟩)
                      · (with_reducible refine Fix.of ?_ ?_; rfl; intro w' hS; have s0 := hS.1; have s1 := hS.2.1; unfold Oper.wp; go_simp; first | done | exact Below.refl _ _ | exact ⟨hS, Below.refl _ _⟩ | exact ⟨hS.2.2, Below.refl _ _⟩ | exact ⟨hS.1, hS.2.1, Below.refl _ _⟩ | exact ⟨⟨hS.1, hS.2.1⟩, Below.refl _ _⟩ | exact ⟨hS.1, hS.2.1, hS.2.2, Below.refl _ _⟩)
                      · (with_reducible refine Fix.of ?_ ?_; rfl; intro w' hS; have s0 := hS.1; have s1 := hS.2.1; unfold Oper.wp; go_simp; first | done | exact Below.refl _ _ | exact ⟨hS, Below.refl _ _⟩ | exact ⟨hS.2.2, Below.refl _ _⟩ | exact ⟨hS.1, hS.2.1, Below.refl _ _⟩ | exact ⟨⟨hS.1, hS.2.1⟩, Below.refl _ _⟩ | exact ⟨hS.1, hS.2.1, hS.2.2, Below.refl _ _⟩)
                      · (with_reducible refine Fix.of ?_ ?_; rfl; intro w' hS; have s0 := hS.1; have s1 := hS.2.1; unfold Oper.wp; go_simp; first | done | exact Below.refl _ _ | exact ⟨hS, Below.refl _ _⟩ | exact ⟨hS.2.2, Below.refl _ _⟩ | exact ⟨hS.1, hS.2.1, Below.refl _ _⟩ | exact ⟨⟨hS.1, hS.2.1⟩, Below.refl _ _⟩ | exact ⟨hS.1, hS.2.1, hS.2.2, Below.refl _ _⟩)
                      · (with_reducible refine Fix.of ?_ ?_; rfl; intro w' hS; have s0 := hS.1; have s1 := hS.2.1; unfold Oper.wp; go_simp; first | done | exact Below.refl _ _ | exact ⟨hS, Below.refl _ _⟩ | exact ⟨hS.2.2, Below.refl _ _⟩ | exact ⟨hS.1, hS.2.1, Below.refl _ _⟩ | exact ⟨⟨hS.1, hS.2.1⟩, Below.refl _ _⟩ | exact ⟨hS.1, hS.2.1, hS.2.2, Below.refl _ _⟩)
                      · (with_reducible refine Fix.of ?_ ?_; rfl; intro w' hS; have s0 := hS.1; have s1 := hS.2.1; unfold Oper.wp; go_simp; first | done | exact Below.refl _ _ | exact ⟨hS, Below.refl _ _⟩ | exact ⟨hS.2.2, Below.refl _ _⟩ | exact ⟨hS.1, hS.2.1, Below.refl _ _⟩ | exact ⟨⟨hS.1, hS.2.1⟩, Below.refl _ _⟩ | exact ⟨hS.1, hS.2.1, hS.2.2, Below.refl _ _⟩)
                      · (with_reducible refine Fix.of ?_ ?_; rfl; intro w' hS; have s3 := Lib.hid hS; unfold Oper.wp; clear hS; go_simp; refine (HPc.out _).mono ?_; rintro e w1 ⟨rfl, hb⟩; exact ⟨rfl, ⟨s3.out.1.below hb s3.out.1.lt, s3.out.2.1.below hb s3.out.2.1.lt, s3.out.2.2.trans (hb.mono s3.out.2.2.size)⟩, hb⟩)
                      · (with_reducible refine Fix.of ?_ ?_; rfl; intro w' hS; have s0 := hS.1; have s1 := hS.2.1; unfold Oper.wp; go_simp; first | done | exact Below.refl _ _ | exact ⟨hS, Below.refl _ _⟩ | exact ⟨hS.2.2, Below.refl _ _⟩ | exact ⟨hS.1, hS.2.1, Below.refl _ _⟩ | exact ⟨⟨hS.1, hS.2.1⟩, Below.refl _ _⟩ | exact ⟨hS.1, hS.2.1, hS.2.2, Below.refl _ _⟩)
                      · (with_reducible refine Fix.of ?_ ?_; rfl; intro w' hS; have s0 := hS.1; have s1 := hS.2.1; unfold Oper.wp; go_simp; first | done | exact Below.refl _ _ | exact ⟨hS, Below.refl _ _⟩ | exact ⟨hS.2.2, Below.refl _ _⟩ | exact ⟨hS.1, hS.2.1, Below.refl _ _⟩ | exact ⟨⟨hS.1, hS.2.1⟩, Below.refl _ _⟩ | exact ⟨hS.1, hS.2.1, hS.2.2, Below.refl _ _⟩)
                      · (with_reducible refine Fix.of ?_ ?_; rfl; intro w' hS; have s0 := hS.1; have s1 := hS.2.1; unfold Oper.wp; go_simp; first | done | exact Below.refl _ _ | exact ⟨hS, Below.refl _ _⟩ | exact ⟨hS.2.2, Below.refl _ _⟩ | exact ⟨hS.1, hS.2.1, Below.refl _ _⟩ | exact ⟨⟨hS.1, hS.2.1⟩, Below.refl _ _⟩ | exact ⟨hS.1, hS.2.1, hS.2.2, Below.refl _ _⟩)
                      · (with_reducible refine Fix.of ?_ ?_; rfl; intro w' hS; have s0 := hS.1; have s1 := hS.2.1; unfold Oper.wp; go_simp; first | done | exact Below.refl _ _ | exact ⟨hS, Below.refl _ _⟩ | exact ⟨hS.2.2, Below.refl _ _⟩ | exact ⟨hS.1, hS.2.1, Below.refl _ _⟩ | exact ⟨⟨hS.1, hS.2.1⟩, Below.refl _ _⟩ | exact ⟨hS.1, hS.2.1, hS.2.2, Below.refl _ _⟩)
                    case hal =>
                      intro q
                      refine ⟨rfl, fun w' hS => ?_⟩
                      have s3 := Lib.hid hS
                      clear hS
                      unfold Oper.wp
                      go_simp
                      exact ⟨rfl, s3.out.1.alloc _, s3.out.2.1.alloc _, s3.out.2.2.alloc s3.out.2.2.size _⟩
                    case hst =>
                      intro q
                      refine ⟨rfl, fun w' hS hq hB => ?_⟩
                      have s3 := Lib.hid hS
                      clear hS
                      have d := hB.six
                      have z := hB.fr6
                      unfold Oper.wp
                      go_simp
                      have hq2 := hq
                      try simp only [World.size_alloc] at hq2
                      exact ⟨⟨s3.out.1.st6 (by first | omega | (have := hlt0; omega)) _, s3.out.2.1.st6 (by first | omega | (have := hlt1; omega)) _, below_st6 s3.out.2.2 (by first | omega | (have := s3.out.2.2.size; omega)) _⟩, hB.st6 _, below_st6 (Below.refl _ _) (by first | omega | (simp <;> omega)) _⟩
                    case hQ =>
                      intro q w' hS hq hB hbel
                      have Hbq := Lib.hid hS.2.2
                      have HBp := Lib.hid hB
                      clear hS hB hbel S0 hsz hlt0 hlt1 HPc hb2 Hbk
                      obtain ⟨Gd, hGd⟩ : ∃ Gd : Nat → Bool, Gd = fun j => decide (gm G j = p) := ⟨_, rfl⟩
                      have HGd := Lib.hid hGd
                      clear hGd
                      go_wp2_with fail
                      go_loopw [20, 21] (fun b m wz => ∃ r : Nat, r ≤ ng ∧ m = .int .i64 r ∧ b = .bool (anyTo Gd r) ∧ Blk wz q 31 (mc p) ∧ Below W0.heap.size W0 wz) (fun _ m _ => ng - (intOf m).toNat)
                      case atStart => exact ⟨0, by omega, rfl, rfl, HBp.out, Hbq.out⟩
                      case round =>
                        obtain ⟨r, hr, rfl, rfl, hBp, hbz⟩ := hrel
                        have HBp2 := Lib.hid hBp
                        have Hbz := Lib.hid hbz
                        clear hBp HBp Hbq
                        by_cases hrN : r < ng
                        · have r1 : (r : Int) < (ng : Int) := by omega
                          have r0 : (0 : Int) ≤ (r : Int) := by omega
                          have HGs : Hid (anyTo Gd (r + 1) = (anyTo Gd r || decide (gm G r = p))) := by show _ = _; rw [anyTo_succ, HGd.out]
                          obtain ⟨_, _, e, _, c0, c1, c2', c3', c4, c5⟩ := RdM.at_ (HG0.out.on hbz) (k := r) (by rw [HGn.out]; exact hrN)
                          injection e with e
                          injection e with e3 e4 _
                          subst e3 e4
                          obtain ⟨d0, d1, d2, d3, d4, d5⟩ := HBp2.out.six
                          obtain ⟨z, hz⟩ : ∃ z, z = gm G r := ⟨_, rfl⟩
                          rw [← hz] at c0 c1 c2' c3' c4 c5 HGs
                          have heq := eqMap_run z p
                          clear hz hbz
                          generalize anyTo Gd r = v at *
                          cases v
                          · by_cases he : z = p
                            · rw [decide_eq_true he] at heq HGs
                              clear he
                              go_wp2_with fail
                              go_quiet (fail)
                              go_wp2_with fail
                              go_roundw
                              case rel => exact ⟨r + 1, by omega, by go_num, by rw [HGs.out] <;> rfl, HBp2.out.drewN _, Hbz.out.drewN _⟩
                              case measure => simp [intOf]; omega
                            · rw [decide_eq_false he] at heq HGs
                              clear he
                              go_wp2_with fail
                              go_quiet (fail)
                              go_wp2_with fail
                              go_roundw
                              case rel => exact ⟨r + 1, by omega, by go_num, by rw [HGs.out] <;> rfl, HBp2.out.drewN _, Hbz.out.drewN _⟩
                              case measure => simp [intOf]; omega
                          · go_wp2_with fail
                            go_quiet (fail)
                            go_wp2_with fail
                            go_roundw
                            case rel => exact ⟨r + 1, by omega, by go_num, by rw [HGs.out] <;> rfl, HBp2.out.drewN _, Hbz.out.drewN _⟩
                            case measure => simp [intOf]; omega
                        · obtain rfl : r = ng := by omega
                          have hgt : anyTo Gd r = true := by
                            obtain ⟨j, hj, e⟩ := List.getElem_of_mem hpG.out
                            refine anyTo_true (j := j) (by have := HGn.out; omega) ?_
                            rw [HGd.out, decide_eq_true_eq, gm_eq hj]; exact e
                          rw [hgt]
                          obtain ⟨d0, d1, d2, d3, d4, d5⟩ := HBp2.out.six
                          obtain ⟨y0, y1, y2, y3, y4, y5⟩ := (HU0.out.on hbz).six
                          have heq := eqMap_run p u
                          clear hgt hbz
                          generalize anyTo Fd k = v at *
                          cases v
                          · by_cases he : p = u
                            · rw [decide_eq_true he] at heq HFk
                              clear he
                              go_wp2_with fail
                              go_roundw
                              case rel => exact ⟨k + 1, by omega, by go_num, by rw [HFk.out] <;> rfl, Hbz.out⟩
                              case measure => simp [intOf]; omega
                            · rw [decide_eq_false he] at heq HFk
                              clear he
                              go_wp2_with fail
                              go_roundw
                              case rel => exact ⟨k + 1, by omega, by go_num, by rw [HFk.out] <;> rfl, Hbz.out⟩
                              case measure => simp [intOf]; omega
                          · go_wp2_with fail
                            go_roundw
                            case rel => exact ⟨k + 1, by omega, by go_num, by rw [HFk.out] <;> rfl, Hbz.out⟩
                            case measure => simp [intOf]; omega
                  · obtain rfl : k = ng := by omega
                    have hft : anyTo Fd k = true := by
                      obtain ⟨b, hb, e⟩ := HInv.out a haG.out
                      obtain ⟨j, hj, e2⟩ := List.getElem_of_mem hb
                      refine anyTo_true (j := j) (by have := HGn.out; omega) ?_
                      rw [HFd.out, decide_eq_true_eq, gm_eq hj, e2]; exact e
                    rw [hft]
                    have i0 : (0 : Int) ≤ (i : Int) := by omega
                    obtain ⟨b2, o2, rfl, hb2, s2⟩ := RdM.at_ (HG0.out.on hbk) (k := i) (by rw [HGn.out]; exact hiN)
                    rw [← Hal.out] at s2
                    have hub := HU0.out.on hbk
                    have S0 : Hid (SixAt wr b2 (o2 + i * 6) a ∧ Six wr ub u ∧ Below W0.heap.size W0 wr) := ⟨s2, hub.six, hbk⟩
                    have hlt0 : b2 < wr.heap.size := hb2
                    have hlt1 : ub < wr.heap.size := hub.lt
                    have hsz := hbk.size
                    have HPc : Hid (∀ wx, Calls Tryz.prog 35 #[.agg (mc a), .agg (mc u)] wx fun e w' => e = .returned (.tuple #[.agg (mc a), I 0]) ∧ Below wx.heap.size wx w') := fun wx => HPu.out a wx haG.out
                    clear hft s2 hub hbk
                    go_wp2_with fail
                    refine wp_region_box [] rfl (by kernel_rfl) (by kernel_rfl) (by kernel_rfl) (fun w' => SixAt w' (b2) (o2 + i * 6) (a) ∧ Six w' (ub) (u) ∧ Below W0.heap.size W0 w') _
                      (fun q => [.slice (some ⟨b2, o2, none⟩) k c2, I i, .pointer (some ⟨b2, o2 + i * 6, none⟩), .agg (mc a), .agg (mc u), .tuple #[.agg (mc a), I 0], .tuple #[.agg (mc a), I 0], .agg (mc a), I 0, .pointer (some ⟨q, 0, none⟩), undef, I 0]) (by intro q; simp only [putAll, List.setIfInBounds_toArray, List.set_cons_succ, List.set_cons_zero]; rfl) ?hS 9 10 22 _ _ rfl rfl 31 (mc M0) (mc (a)) (by kernel_rfl) (by kernel_rfl) (by decide) (fun _ _ => rfl) ?hop ?hal ?hst ?hQ
                    case hS => exact ⟨SixAt.below S0.out.1 (Below.refl _ _).drew hb2, Six.below S0.out.2.1 (Below.refl _ _).drew hlt1, S0.out.2.2.drew⟩
                    case hop =>
                      intro q
                      refine ⟨.inr ?_, .inr ?_, .inr ?_, .inr ?_, .inr ?_, .inr ?_, .inr ?_, .inr ?_, .inr ?_, .inl rfl, .inl rfl, .inr ?_, trivial⟩
                      · (with_reducible refine Fix.of ?_ ?_; rfl; intro w' hS; have s0 := hS.1; have s1 := hS.2.1; unfold Oper.wp; go_simp; first | done | exact Below.refl _ _ | exact ⟨hS, Below.refl _ _⟩ | exact ⟨hS.2.2, Below.refl _ _⟩ | exact ⟨hS.1, hS.2.1, Below.refl _ _⟩ | exact ⟨⟨hS.1, hS.2.1⟩, Below.refl _ _⟩ | exact ⟨hS.1, hS.2.1, hS.2.2, Below.refl _ _⟩)
                      · (with_reducible refine Fix.of ?_ ?_; rfl; intro w' hS; have s0 := hS.1; have s1 := hS.2.1; unfold Oper.wp; go_simp; first | done | exact Below.refl _ _ | exact ⟨hS, Below.refl _ _⟩ | exact ⟨hS.2.2, Below.refl _ _⟩ | exact ⟨hS.1, hS.2.1, Below.refl _ _⟩ | exact ⟨⟨hS.1, hS.2.1⟩, Below.refl _ _⟩ | exact ⟨hS.1, hS.2.1, hS.2.2, Below.refl _ _⟩)
                      · (with_reducible refine Fix.of ?_ ?_; rfl; intro w' hS; have s0 := hS.1; have s1 := hS.2.1; unfold Oper.wp; go_simp; first | done | exact Below.refl _ _ | exact ⟨hS, Below.refl _ _⟩ | exact ⟨hS.2.2, Below.refl _ _⟩ | exact ⟨hS.1, hS.2.1, Below.refl _ _⟩ | exact ⟨⟨hS.1, hS.2.1⟩, Below.refl _ _⟩ | exact ⟨hS.1, hS.2.1, hS.2.2, Below.refl _ _⟩)
                      · (with_reducible refine Fix.of ?_ ?_; rfl; intro w' hS; have s0 := hS.1; have s1 := hS.2.1; unfold Oper.wp; go_simp; first | done | exact Below.refl _ _ | exact ⟨hS, Below.refl _ _⟩ | exact ⟨hS.2.2, Below.refl _ _⟩ | exact ⟨hS.1, hS.2.1, Below.refl _ _⟩ | exact ⟨⟨hS.1, hS.2.1⟩, Below.refl _ _⟩ | exact ⟨hS.1, hS.2.1, hS.2.2, Below.refl _ _⟩)
                      · (with_reducible refine Fix.of ?_ ?_; rfl; intro w' hS; have s0 := hS.1; have s1 := hS.2.1; unfold Oper.wp; go_simp; first | done | exact Below.refl _ _ | exact ⟨hS, Below.refl _ _⟩ | exact ⟨hS.2.2, Below.refl _ _⟩ | exact ⟨hS.1, hS.2.1, Below.refl _ _⟩ | exact ⟨⟨hS.1, hS.2.1⟩, Below.refl _ _⟩ | exact ⟨hS.1, hS.2.1, hS.2.2, Below.refl _ _⟩)
                      · (with_reducible refine Fix.of ?_ ?_; rfl; intro w' hS; have s3 := Lib.hid hS; unfold Oper.wp; clear hS; go_simp; refine (HPc.out _).mono ?_; rintro e w1 ⟨rfl, hb⟩; exact ⟨rfl, ⟨s3.out.1.below hb s3.out.1.lt, s3.out.2.1.below hb s3.out.2.1.lt, s3.out.2.2.trans (hb.mono s3.out.2.2.size)⟩, hb⟩)
                      · (with_reducible refine Fix.of ?_ ?_; rfl; intro w' hS; have s0 := hS.1; have s1 := hS.2.1; unfold Oper.wp; go_simp; first | done | exact Below.refl _ _ | exact ⟨hS, Below.refl _ _⟩ | exact ⟨hS.2.2, Below.refl _ _⟩ | exact ⟨hS.1, hS.2.1, Below.refl _ _⟩ | exact ⟨⟨hS.1, hS.2.1⟩, Below.refl _ _⟩ | exact ⟨hS.1, hS.2.1, hS.2.2, Below.refl _ _⟩)
                      · (with_reducible refine Fix.of ?_ ?_; rfl; intro w' hS; have s0 := hS.1; have s1 := hS.2.1; unfold Oper.wp; go_simp; first | done | exact Below.refl _ _ | exact ⟨hS, Below.refl _ _⟩ | exact ⟨hS.2.2, Below.refl _ _⟩ | exact ⟨hS.1, hS.2.1, Below.refl _ _⟩ | exact ⟨⟨hS.1, hS.2.1⟩, Below.refl _ _⟩ | exact ⟨hS.1, hS.2.1, hS.2.2, Below.refl _ _⟩)
                      · (with_reducible refine Fix.of ?_ ?_; rfl; intro w' hS; have s0 := hS.1; have s1 := hS.2.1; unfold Oper.wp; go_simp; first | done | exact Below.refl _ _ | exact ⟨hS, Below.refl _ _⟩ | exact ⟨hS.2.2, Below.refl _ _⟩ | exact ⟨hS.1, hS.2.1, Below.refl _ _⟩ | exact ⟨⟨hS.1, hS.2.1⟩, Below.refl _ _⟩ | exact ⟨hS.1, hS.2.1, hS.2.2, Below.refl _ _⟩)
                      · (with_reducible refine Fix.of ?_ ?_; rfl; intro w' hS; have s0 := hS.1; have s1 := hS.2.1; unfold Oper.wp; go_simp; first | done | exact Below.refl _ _ | exact ⟨hS, Below.refl _ _⟩ | exact ⟨hS.2.2, Below.refl _ _⟩ | exact ⟨hS.1, hS.2.1, Below.refl _ _⟩ | exact ⟨⟨hS.1, hS.2.1⟩, Below.refl _ _⟩ | exact ⟨hS.1, hS.2.1, hS.2.2, Below.refl _ _⟩)
                    case hal =>
                      intro q
                      refine ⟨rfl, fun w' hS => ?_⟩
                      have s3 := Lib.hid hS
                      clear hS
                      unfold Oper.wp
                      go_simp
                      exact ⟨rfl, s3.out.1.alloc _, s3.out.2.1.alloc _, s3.out.2.2.alloc s3.out.2.2.size _⟩
                    case hst =>
                      intro q
                      refine ⟨rfl, fun w' hS hq hB => ?_⟩
                      have s3 := Lib.hid hS
                      clear hS
                      have d := hB.six
                      have z := hB.fr6
                      unfold Oper.wp
                      go_simp
                      have hq2 := hq
                      try simp only [World.size_alloc] at hq2
                      exact ⟨⟨s3.out.1.st6 (by first | omega | (have := hlt0; omega)) _, s3.out.2.1.st6 (by first | omega | (have := hlt1; omega)) _, below_st6 s3.out.2.2 (by first | omega | (have := s3.out.2.2.size; omega)) _⟩, hB.st6 _, below_st6 (Below.refl _ _) (by first | omega | (simp <;> omega)) _⟩
                    case hQ =>
                      intro q w' hS hq hB hbel
                      obtain ⟨c0, c1, c2', c3', c4, c5⟩ := hS.1
                      obtain ⟨d0, d1, d2, d3, d4, d5⟩ := hB.six
                      have heq := eqMap_run a a
                      rw [decide_eq_true rfl] at heq
                      have Hbq := Lib.hid hS.2.2
                      clear hS hB hbel S0 hsz hlt0 hlt1 HPc hb2 Hbk
                      go_wp2_with fail
                      go_quiet (fail)
                      go_wp2_with fail
                      go_roundw
                      case rel => exact ⟨i + 1, by omega, by go_num, Hbq.out.drewN _⟩
                      case measure => simp [intOf]; omega
              · have i2 : ¬ (i : Int) < 12 := by omega
                go_wp2_with fail
                go_meet
                exact ⟨HBX.out.1.trans (Hbi.out.mono HBX.out.1.size), RdU.on HBX.out.2 Hbi.out Hbi.out.size⟩
            · have i1 : ¬ (i : Int) < (ng : Int) := by omega
              go_wp2_with fail
              go_meet
              exact ⟨HBX.out.1.trans (Hbi.out.mono HBX.out.1.size), RdU.on HBX.out.2 Hbi.out Hbi.out.size⟩
      · have g0 : (cd == 0) = false := by simpa using h0
        clear h0
        go_wp2_with fail
        go_meet
        exact ⟨HB_r7.out, HX_r7.out⟩
    case rest =>
      as_aux_lemma =>
        clear HB_r7 HX_r7 F_r7 Ha_r7 Hcd Hng
        obtain ⟨hHB, hHX⟩ := hcut
        have HB_r7 := Lib.hid hHB
        have HX_r7 := Lib.hid hHX
        clear hHB hHX
        go_wp2_with fail
        refine (DrawIsUnder_any (A := A) (n := n) (c := c) wc HX_r7.out Hn.out hbd).mono ?_
        rintro e w8 ⟨A5, q5, c5, L5, g, h, rfl, hq, ho, hq7, hb⟩
        have HB_8 := Lib.hid (HB_r7.out.trans (hb.mono HB_r7.out.size))
        have HX_8 := Lib.hid (HX_r7.out.on hb)
        have HL_8 := Lib.hid (ho.read)
        clear hb HB_r7 HX_r7
        have HN5 := Lib.hid ho.noneA
        have Hq5 := Lib.hid hq
        have hr5 : q5 < 536870912 := by omega
        clear hq ho hq7
        obtain ⟨cu, hcu⟩ : ∃ cu, monC L5 [g, h] = cu := ⟨_, rfl⟩
        obtain ⟨bu, hbu⟩ : ∃ bu, iuR L5 g h = bu := ⟨_, rfl⟩
        have e1 : (cu != cu) = false := by simp
        have e2 : (bu != bu) = false := by simp
        have HIu : Hid (∀ wx, RdM wx wx.heap.size A5 L5 → Calls Tryz.prog 59 #[.slice A5 q5 c5, .agg (mc g), .agg (mc h)] wx fun e w' => e = .returned (.tuple #[.bool bu, I cu]) ∧ Below wx.heap.size wx w') := fun wx hr => by have k := ImplIsUnder_any A5 q5 c5 L5 g h wx hr Hq5.out.symm HN5.out hr5; rw [hbu, hcu] at k; exact k
        have HSu : Hid (∀ wx, RdM wx wx.heap.size A5 L5 → Calls Tryz.prog 60 #[.slice A5 q5 c5, .agg (mc g), .agg (mc h)] wx fun e w' => e = .returned (.tuple #[.bool bu, I cu]) ∧ Below wx.heap.size wx w') := fun wx hr => by have k := SpecIsUnder_any A5 q5 c5 L5 g h wx hr Hq5.out.symm (by omega); rw [hbu, hcu] at k; exact k
        have Hbu := Lib.hid hbu
        clear hcu hbu
        have hb : Below w8.heap.size w8 (w8.alloc (.cells (mc g) 31)) := (Below.refl _ _).alloc (Nat.le_refl _) _
        have HB_9 := Lib.hid (HB_8.out.trans (hb.mono HB_8.out.size))
        have HX_9 := Lib.hid (HX_8.out.on hb)
        have HL_9 := Lib.hid (HL_8.out.on hb)
        have F_9 := Lib.hid (show Blk (w8.alloc (.cells (mc g) 31)) w8.heap.size 31 (mc g) from Blk.new _ _ _)
        clear hb HB_8 HX_8 HL_8
        have hb : Below (w8.alloc (.cells (mc g) 31)).heap.size (w8.alloc (.cells (mc g) 31)) ((w8.alloc (.cells (mc g) 31)).alloc (.cells (mc h) 31)) := (Below.refl _ _).alloc (Nat.le_refl _) _
        have HB_10 := Lib.hid (HB_9.out.trans (hb.mono HB_9.out.size))
        have HX_10 := Lib.hid (HX_9.out.on hb)
        have HL_10 := Lib.hid (HL_9.out.on hb)
        have F_10 := Lib.hid (F_9.out.on hb)
        have G_10 := Lib.hid (show Blk ((w8.alloc (.cells (mc g) 31)).alloc (.cells (mc h) 31)) (w8.heap.size + 1) 31 (mc h) from Blk.new' _ _ _ (by simp))
        clear hb HB_9 HX_9 HL_9 F_9
        obtain ⟨xF0, xF1, xF2, xF3, xF4, xF5⟩ := F_10.out.six
        obtain ⟨xG0, xG1, xG2, xG3, xG4, xG5⟩ := G_10.out.six
        go_wp2_with fail
        refine (HIu.out _ HL_10.out).mono ?_
        rintro e w11 ⟨rfl, hb⟩
        have HB_11 := Lib.hid (HB_10.out.trans (hb.mono HB_10.out.size))
        have HX_11 := Lib.hid (HX_10.out.on hb)
        have HL_11 := Lib.hid (HL_10.out.on hb)
        have F_11 := Lib.hid (F_10.out.on hb)
        have G_11 := Lib.hid (G_10.out.on hb)
        clear hb HB_10 HX_10 HL_10 F_10 G_10
        clear HIu
        clear xF0 xF1 xF2 xF3 xF4 xF5 xG0 xG1 xG2 xG3 xG4 xG5
        obtain ⟨xF0, xF1, xF2, xF3, xF4, xF5⟩ := F_11.out.six
        obtain ⟨xG0, xG1, xG2, xG3, xG4, xG5⟩ := G_11.out.six
        go_wp2_with fail
        refine (HSu.out _ HL_11.out).mono ?_
        rintro e w12 ⟨rfl, hb⟩
        have HB_12 := Lib.hid (HB_11.out.trans (hb.mono HB_11.out.size))
        have HX_12 := Lib.hid (HX_11.out.on hb)
        have F_12 := Lib.hid (F_11.out.on hb)
        have G_12 := Lib.hid (G_11.out.on hb)
        clear hb HB_11 HX_11 HL_11 F_11 G_11
        clear HSu HN5 Hq5 hr5
        clear xF0 xF1 xF2 xF3 xF4 xF5 xG0 xG1 xG2 xG3 xG4 xG5
        go_upto_region 38 with fail
        obtain ⟨bb, hbb⟩ : ∃ bb, bb = ((cu == 0) && bu) := ⟨_, rfl⟩
        have Hbb := Lib.hid hbb
        clear hbb
        go_cut [225] from 314 (fun b wx => b = .bool bb ∧ Below w.heap.size w wx ∧ RdU wx wx.heap.size A zs ∧ Blk wx w8.heap.size 31 (mc g) ∧ Blk wx (w8.heap.size + 1) 31 (mc h))
        case first =>
          by_cases h0 : cu = 0
          · have g0 : (cu == 0) = true := by simpa using h0
            clear h0
            go_wp2_with fail
            go_meet
            exact ⟨by rw [Hbb.out, g0] <;> rfl, HB_12.out, HX_12.out, F_12.out, G_12.out⟩
          · have g0 : (cu == 0) = false := by simpa using h0
            clear h0
            go_wp2_with fail
            go_meet
            exact ⟨by rw [Hbb.out, g0] <;> rfl, HB_12.out, HX_12.out, F_12.out, G_12.out⟩
        case rest =>
          clear HB_12 HX_12 F_12 G_12 e1 e2
          obtain ⟨rfl, hHB, hHX, hF, hG⟩ := hcut
          have HB_r12 := Lib.hid hHB
          have HX_r12 := Lib.hid hHX
          have F_r12 := Lib.hid hF
          have G_r12 := Lib.hid hG
          clear hHB hHX hF hG
          go_upto_if 225 with fail
          go_cut [225] from 314 (fun _ wx => Below w.heap.size w wx ∧ RdU wx wx.heap.size A zs)
          case first =>
            cases bb
            case false =>
              go_wp2_with fail
              go_meet
              exact ⟨HB_r12.out, HX_r12.out⟩
            case true =>
              have hu : iuR L5 g h = true := by
                have k := Hbb.out.symm
                rw [Bool.and_eq_true] at k
                exact Hbu.out.trans k.2
              obtain ⟨vg, vh, hle⟩ := under_rank hu
              have mg := (isMap_iff g).2 vg
              have mh := (isMap_iff h).2 vh
              obtain ⟨ra, hra⟩ : ∃ ra : Nat, rk g = ra := ⟨_, rfl⟩
              obtain ⟨rb, hrb⟩ : ∃ rb : Nat, rk h = rb := ⟨_, rfl⟩
              rw [hra, hrb] at hle
              have hgt : decide ((rb : Int) < (ra : Int)) = false := decide_eq_false (by omega)
              have hgt2 : ¬ (rb : Int) < (ra : Int) := by omega
              have HR1 : Hid (∀ wx, Calls Tryz.prog 34 #[.agg (mc g)] wx fun e w' => e = .returned (.tuple #[I ra, I 0]) ∧ Below wx.heap.size wx w') := fun wx => by have k := ImplRank_any g wx; rw [rkR_good mg, hra, mg] at k; exact k
              have HR2 : Hid (∀ wx, Calls Tryz.prog 34 #[.agg (mc h)] wx fun e w' => e = .returned (.tuple #[I rb, I 0]) ∧ Below wx.heap.size wx w') := fun wx => by have k := ImplRank_any h wx; rw [rkR_good mh, hrb, mh] at k; exact k
              clear hu vg vh hle mg mh hra hrb Hbb
              obtain ⟨xF0, xF1, xF2, xF3, xF4, xF5⟩ := F_r12.out.six
              go_wp2_with fail
              refine (HR1.out _).mono ?_
              rintro e w13 ⟨rfl, hb⟩
              have HB_13 := Lib.hid (HB_r12.out.trans (hb.mono HB_r12.out.size))
              have HX_13 := Lib.hid (HX_r12.out.on hb)
              have G_13 := Lib.hid (G_r12.out.on hb)
              clear hb HB_r12 HX_r12 F_r12 G_r12
              clear HR1
              clear xF0 xF1 xF2 xF3 xF4 xF5
              obtain ⟨xG0, xG1, xG2, xG3, xG4, xG5⟩ := G_13.out.six
              go_wp2_with fail
              refine (HR2.out _).mono ?_
              rintro e w14 ⟨rfl, hb⟩
              have HB_14 := Lib.hid (HB_13.out.trans (hb.mono HB_13.out.size))
              have HX_14 := Lib.hid (HX_13.out.on hb)
              clear hb HB_13 HX_13 G_13
              clear HR2
              clear xG0 xG1 xG2 xG3 xG4 xG5
              go_wp2_with fail
              go_meet
              exact ⟨HB_14.out, HX_14.out⟩
          case rest =>
            clear HB_r12 HX_r12 F_r12 G_r12 Hbb Hbu
            obtain ⟨hHB, hHX⟩ := hcut
            have HB_r12 := Lib.hid hHB
            have HX_r12 := Lib.hid hHX
            clear hHB hHX
            go_wp2_with fail
            refine (DrawDepthOf_any (A := A) (n := n) (c := c) wc HX_r12.out Hn.out hbd).mono ?_
            rintro e w13 ⟨A6, q6, c6, L6, rfl, hq, ho, hq7, hb⟩
            have HB_13 := Lib.hid (HB_r12.out.trans (hb.mono HB_r12.out.size))
            have HX_13 := Lib.hid (HX_r12.out.on hb)
            have HL_13 := Lib.hid (ho.read)
            clear hb HB_r12 HX_r12
            have HN6 := Lib.hid ho.noneA
            have Hq6 := Lib.hid hq
            have hr6 : q6 < 536870912 := by omega
            clear hq ho hq7
            obtain ⟨cp, hcp⟩ : ∃ cp, monC L6 [] = cp := ⟨_, rfl⟩
            obtain ⟨dp, hdp⟩ : ∃ dp, dpR L6 = dp := ⟨_, rfl⟩
            have e1 : (cp != cp) = false := by simp
            have e2 : (dp != dp) = false := by simp
            have HId : Hid (∀ wx, RdM wx wx.heap.size A6 L6 → Calls Tryz.prog 62 #[.slice A6 q6 c6] wx fun e w' => e = .returned (.tuple #[I dp, I cp]) ∧ Below wx.heap.size wx w') := fun wx hr => by have k := ImplDP_any A6 q6 c6 L6 wx hr Hq6.out.symm HN6.out hr6; rw [hdp, hcp] at k; exact k
            have HSd : Hid (∀ wx, RdM wx wx.heap.size A6 L6 → Calls Tryz.prog 63 #[.slice A6 q6 c6] wx fun e w' => e = .returned (.tuple #[I dp, I cp]) ∧ Below wx.heap.size wx w') := fun wx hr => by have k := SpecDP_any A6 q6 c6 L6 wx hr Hq6.out.symm (by omega); rw [hdp, hcp] at k; exact k
            have Hcp := Lib.hid hcp
            have Hdp := Lib.hid hdp
            clear hcp hdp
            go_wp2_with fail
            refine (HId.out _ HL_13.out).mono ?_
            rintro e w14 ⟨rfl, hb⟩
            have HB_14 := Lib.hid (HB_13.out.trans (hb.mono HB_13.out.size))
            have HX_14 := Lib.hid (HX_13.out.on hb)
            have HL_14 := Lib.hid (HL_13.out.on hb)
            clear hb HB_13 HX_13 HL_13
            clear HId
            go_wp2_with fail
            refine (HSd.out _ HL_14.out).mono ?_
            rintro e w15 ⟨rfl, hb⟩
            have HB_15 := Lib.hid (HB_14.out.trans (hb.mono HB_14.out.size))
            have HX_15 := Lib.hid (HX_14.out.on hb)
            have HL_15 := Lib.hid (HL_14.out.on hb)
            clear hb HB_14 HX_14 HL_14
            clear HSd
            go_wp2_with fail
            refine (DrawIsRegular_any (A := A) (n := n) (c := c) w15 HX_15.out Hn.out hbd).mono ?_
            rintro e w16 ⟨A7, q7, c7, L7, k7, rfl, hq, ho, hq7, hb⟩
            have HB_16 := Lib.hid (HB_15.out.trans (hb.mono HB_15.out.size))
            have HL_16 := Lib.hid (HL_15.out.on hb)
            have HM_16 := Lib.hid (ho.read)
            clear hb HB_15 HX_15 HL_15
            have HN7 := Lib.hid ho.noneA
            have Hq7 := Lib.hid hq
            have hr7 : q7 < 536870912 := by omega
            clear hq ho hq7
            obtain ⟨cv, hcv⟩ : ∃ cv, monC L7 [k7] = cv := ⟨_, rfl⟩
            obtain ⟨bv, hbv⟩ : ∃ bv, irgR L7 k7 = bv := ⟨_, rfl⟩
            have e3 : (cv != cv) = false := by simp
            have e4 : (bv != bv) = false := by simp
            have HIv : Hid (∀ wx, RdM wx wx.heap.size A7 L7 → Calls Tryz.prog 54 #[.slice A7 q7 c7, .agg (mc k7)] wx fun e w' => e = .returned (.tuple #[.bool bv, I cv]) ∧ Below wx.heap.size wx w') := fun wx hr => by have h := ImplIsRegular_any A7 q7 c7 L7 k7 wx hr Hq7.out.symm HN7.out hr7; rw [hbv, hcv] at h; exact h
            have HSv : Hid (∀ wx, RdM wx wx.heap.size A7 L7 → Calls Tryz.prog 55 #[.slice A7 q7 c7, .agg (mc k7)] wx fun e w' => e = .returned (.tuple #[.bool bv, I cv]) ∧ Below wx.heap.size wx w') := fun wx hr => by have h := SpecIsRegular_any A7 q7 c7 L7 k7 wx hr Hq7.out.symm (by omega); rw [hbv, hcv] at h; exact h
            clear hcv hbv
            have hb : Below w16.heap.size w16 (w16.alloc (.cells (mc k7) 31)) := (Below.refl _ _).alloc (Nat.le_refl _) _
            have HB_17 := Lib.hid (HB_16.out.trans (hb.mono HB_16.out.size))
            have HL_17 := Lib.hid (HL_16.out.on hb)
            have HM_17 := Lib.hid (HM_16.out.on hb)
            have F_17 := Lib.hid (show Blk (w16.alloc (.cells (mc k7) 31)) w16.heap.size 31 (mc k7) from Blk.new _ _ _)
            clear hb HB_16 HL_16 HM_16
            obtain ⟨xF0, xF1, xF2, xF3, xF4, xF5⟩ := F_17.out.six
            go_wp2_with fail
            refine (HIv.out _ HM_17.out).mono ?_
            rintro e w18 ⟨rfl, hb⟩
            have HB_18 := Lib.hid (HB_17.out.trans (hb.mono HB_17.out.size))
            have HL_18 := Lib.hid (HL_17.out.on hb)
            have HM_18 := Lib.hid (HM_17.out.on hb)
            have F_18 := Lib.hid (F_17.out.on hb)
            clear hb HB_17 HL_17 HM_17 F_17
            clear HIv
            clear xF0 xF1 xF2 xF3 xF4 xF5
            obtain ⟨xF0, xF1, xF2, xF3, xF4, xF5⟩ := F_18.out.six
            go_wp2_with fail
            refine (HSv.out _ HM_18.out).mono ?_
            rintro e w19 ⟨rfl, hb⟩
            have HB_19 := Lib.hid (HB_18.out.trans (hb.mono HB_18.out.size))
            have HL_19 := Lib.hid (HL_18.out.on hb)
            clear hb HB_18 HL_18 HM_18 F_18
            clear HSv HN7 Hq7 hr7
            clear xF0 xF1 xF2 xF3 xF4 xF5
            by_cases h0 : cp = 0
            · have g0 : (cp == 0) = true := by simpa using h0
              obtain ⟨l1, l2, l3⟩ := depth_bd (Hcp.out.trans h0)
              rw [Hdp.out] at l1 l2
              have hc0 := Hcp.out.trans h0
              have HC : Hid (∀ wx, RdM wx wx.heap.size A6 L6 → Calls Tryz.prog 37 #[.slice A6 q6 c6] wx (RetQ (ccR L6) 4 0 wx)) := fun wx hr => (ImplCC_any A6 q6 c6 L6 wx hr Hq6.out.symm HN6.out hr6).mono fun e w' h => (RetI.toS h).toQ l3 hc0
              have n1 : decide (dp < 1) = false := decide_eq_false (by omega)
              have n1' : ¬ dp < 1 := by omega
              have n2 : decide (gi (ccR L6) 3 < dp) = false := decide_eq_false (by omega)
              have n2' : ¬ gi (ccR L6) 3 < dp := by omega
              have Hl3 := Lib.hid l3
              clear h0 l1 l2 l3 hc0
              go_wp2_with fail
              refine (HC.out _ HL_19.out).mono ?_
              rintro e w20 ⟨A8, c8, rfl, hr, hb⟩
              have HB_20 := Lib.hid (HB_19.out.trans (hb.mono HB_19.out.size))
              have Hz_20 := Lib.hid (hr)
              clear hb HB_19 HL_19
              clear hr HC
              obtain ⟨b2, off2, rfl, hb2, hcell⟩ := RdI.all Hz_20.out (by rw [Hl3.out]; omega)
              have x3 := hcell 3 (by rw [Hl3.out]; omega)
              clear hcell
              go_wp2
              go_ret
              exact ⟨rfl, HB_20.out⟩
            · have g0 : (cp == 0) = false := by simpa using h0
              clear h0
              go_wp2
              go_ret
              exact ⟨rfl, HB_19.out⟩
end Go.Proofs.YtkbfocoaobiijaaGreat
