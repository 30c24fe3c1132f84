/- The contract of spec.l01Put; the list is as the theorem states. -/
import Derived.Test.YtknknljkmkfmoaaN10
namespace Go.Proofs.Ytknknljkmkfmoaa
open Go.RowKit
set_option maxRecDepth 100000
set_option linter.unusedSimpArgs false

theorem l01Put_any (A : Addr) (N c : Nat) (E : List M) (f : M) (w : World) (hx : RdM w w.heap.size (some A) E) (hn : E.length = N) (hNc : N ≤ c) (hN : N < 536870912) (hA : Asc E) (hE : ∀ g ∈ E, Valid g) (hf : Valid f) :
    Calls Try.prog 134 #[.slice (some A) N c, .agg (mc f)] w fun e w' => ∃ A' c', e = .returned (.slice (some A') (insM f E).length c') ∧ (insM f E).length ≤ c' ∧ RdM w' w'.heap.size (some A') (insM f E) ∧ (A' = A ∨ w.heap.size ≤ A'.block) ∧ Below w.heap.size w w' := by
  have Hx := Lib.hid hx
  have Hn := Lib.hid hn
  have HE := Lib.hid hE
  have HA := Lib.hid hA
  clear hx hn hE hA
  go_enter Try.func134, Try.ntmps134
  go_wp2_with fail
  obtain ⟨wb, hwb⟩ : ∃ wb, wb = w.alloc (.cells (mc f) 31) := ⟨_, rfl⟩
  have H6 : Hid (Six wb w.heap.size f) := by show Six _ _ _; rw [hwb]; exact Blk.six (Blk.new w _ _)
  have Hbb : Hid (Below w.heap.size w wb) := by show Below _ _ _; rw [hwb]; exact (Below.refl _ _).alloc (Nat.le_refl _) _
  have hsb : wb.heap.size = w.heap.size + 1 := by rw [hwb]; simp
  try rw [← hwb]
  clear hwb
  go_loopw [5, 6] (fun lo hi wr => ∃ a b : Nat, lo = .int .i64 a ∧ hi = .int .i64 b ∧ a ≤ b ∧ b ≤ N ∧ Below wb.heap.size wb wr ∧ Cut E f a b) (fun lo hi _ => (intOf hi).toNat - (intOf lo).toNat)
  case atStart => exact ⟨0, N, rfl, rfl, by omega, Nat.le_refl _, Below.refl _ _, fun j hj => by omega, fun j hj hl => by rw [Hn.out] at hl; omega⟩
  case round =>
    obtain ⟨a, b, rfl, rfl, hab, hbN, hb, hC⟩ := hrel
    have Hb := Lib.hid hb
    have HC := Lib.hid hC
    have hsz := hb.size
    clear hb hC
    by_cases hlt : a < b
    · have hi : (a : Int) < (b : Int) := by omega
      obtain ⟨k, hk⟩ : ∃ k : Nat, ((a : Int) + (b : Int)) / 2 = k := ⟨(a + b) / 2, by omega⟩
      have hak : a ≤ k := by omega
      have hkb : k < b := by omega
      go_wp2_with fail
      rw [hk]
      clear hk
      obtain ⟨b2, off2, e, hbb2, h6⟩ := RdM.at_ (Rd.below (Rd.below Hx.out Hbb.out) (Hb.out.mono Hbb.out.size)) (k := k) (by rw [Hn.out]; omega)
      injection e with e
      subst e
      obtain ⟨g, hg⟩ : ∃ g, g = gm E k := ⟨_, rfl⟩
      rw [← hg] at h6
      have hvg : Valid g := HE.out g (by rw [hg]; exact gm_mem (by rw [Hn.out]; omega))
      have H6k := Lib.hid h6
      have hkN : (k : Int) < (N : Int) := by omega
      have h6l : b2 < wr.heap.size := by omega
      have H6w := Lib.hid (H6.out.below Hb.out (by omega))
      have h6wl : w.heap.size < wr.heap.size := by omega
      have Hg := Lib.hid hg
      clear h6 hg
      refine wp_region_same [] rfl (by kernel_rfl) (by kernel_rfl) (by kernel_rfl) (fun w' => Below wr.heap.size wr w') _
        [.slice (some ⟨b2, off2, none⟩) N c, I k, .pointer (some ⟨b2, off2 + k * 6, none⟩), .agg (mc g), .agg (mc f), .bool (lessM g f)]
        (by simp only [putAll, List.setIfInBounds_toArray, List.set_cons_succ, List.set_cons_zero]; rfl) (Below.refl _ _).drew ?hop ?hQ
      case hop =>
        refine FixBL.toL (fun w' w'' hS hb => hS.trans (hb.mono hS.size)) _ _ ?_
        refine ⟨.inr ?_, .inr ?_, .inr ?_, .inr ?_, .inr ?_, .inr ?_, trivial⟩
        · (with_reducible refine FixB.of ?_ ?_; rfl; intro w' hS; have s0 := H6k.out.below hS h6l; have s1 := H6w.out.below hS h6wl; clear hS; unfold Oper.wp; go_simp; first | done | exact Below.refl _ _)
        · (with_reducible refine FixB.of ?_ ?_; rfl; intro w' hS; have s0 := H6k.out.below hS h6l; have s1 := H6w.out.below hS h6wl; clear hS; unfold Oper.wp; go_simp; first | done | exact Below.refl _ _)
        · (with_reducible refine FixB.of ?_ ?_; rfl; intro w' hS; have s0 := H6k.out.below hS h6l; have s1 := H6w.out.below hS h6wl; clear hS; unfold Oper.wp; go_simp; first | done | exact Below.refl _ _)
        · (with_reducible refine FixB.of ?_ ?_; rfl; intro w' hS; have s0 := H6k.out.below hS h6l; have s1 := H6w.out.below hS h6wl; clear hS; unfold Oper.wp; go_simp; first | done | exact Below.refl _ _)
        · (with_reducible refine FixB.of ?_ ?_; rfl; intro w' hS; have s0 := H6k.out.below hS h6l; have s1 := H6w.out.below hS h6wl; clear hS; unfold Oper.wp; go_simp; first | done | exact Below.refl _ _)
        · (with_reducible refine FixB.of ?_ ?_; rfl; intro w' hS; have s3 := Lib.hid hS; unfold Oper.wp; clear hS; go_simp; refine (l01Less_any g f _ hvg hf).mono ?_; rintro e w1 ⟨rfl, hb⟩; exact ⟨rfl, hb⟩)
      case hQ =>
        intro wc hS _
        have Hb3 := Lib.hid (Hb.out.trans (hS.mono hsz))
        clear hS H6k H6w
        cases hl : lessM g f
        · have HC2 := Lib.hid (HC.out.down HA.out (k := k) (by rw [← Hg.out]; exact hl))
          go_wp2
          go_roundw
          case rel => exact ⟨a, k, by go_num, by go_num, by omega, by omega, Hb3.out, HC2.out⟩
          case measure => simp [intOf]; omega
        · have HC2 := Lib.hid (HC.out.up HA.out (k := k) (by rw [Hn.out]; omega) (by rw [← Hg.out]; exact hl))
          go_wp2
          go_roundw
          case rel => exact ⟨k + 1, b, by go_num, by go_num, by omega, by omega, Hb3.out, HC2.out⟩
          case measure => simp [intOf]; omega
    · obtain rfl : a = b := by omega
      have hi : ¬ ((a : Int) < (a : Int)) := by omega
      have H6w := Lib.hid (H6.out.below Hb.out (by omega))
      have h6wl : w.heap.size < wr.heap.size := by omega
      have Hbw := Lib.hid (Hbb.out.trans (Hb.out.mono Hbb.out.size))
      have b0 := plOf_bd E f
      by_cases haN : a < N
      · obtain ⟨b2, off2, e, hbb2, h6⟩ := RdM.at_ (Rd.below Hx.out Hbw.out) (k := a) (by rw [Hn.out]; omega)
        injection e with e
        subst e
        obtain ⟨g, hg⟩ : ∃ g, g = gm E a := ⟨_, rfl⟩
        rw [← hg] at h6
        have H6k := Lib.hid h6
        have hkN : (a : Int) < (N : Int) := by omega
        have h6l : b2 < wr.heap.size := by omega
        have heq := eqMap_run g f
        obtain ⟨d, hd⟩ : ∃ d, d = decide (g = f) := ⟨_, rfl⟩
        rw [← hd] at heq
        have Hd := Lib.hid hd
        have Hg := Lib.hid hg
        clear h6 hg hd b0
        go_wp2_with fail
        refine wp_region_same [] rfl (by kernel_rfl) (by kernel_rfl) (by kernel_rfl) (fun w' => Below wr.heap.size wr w') _
          [I a, .slice (some ⟨b2, off2, none⟩) N c, I N, .bool true, .bool true, .slice (some ⟨b2, off2, none⟩) N c, I a, .pointer (some ⟨b2, off2 + a * 6, none⟩), .agg (mc g), .agg (mc f), .bool d, .bool d]
          (by simp only [putAll, List.setIfInBounds_toArray, List.set_cons_succ, List.set_cons_zero]; rfl) (Below.refl _ _).drew ?hop ?hQ
        case hop =>
          refine FixBL.toL (fun w' w'' hS hb => hS.trans (hb.mono hS.size)) _ _ ?_
          refine ⟨.inr ?_, .inr ?_, .inr ?_, .inr ?_, .inr ?_, .inr ?_, .inr ?_, .inr ?_, .inr ?_, .inr ?_, .inr ?_, .inr ?_, trivial⟩
          · (with_reducible refine FixB.of ?_ ?_; rfl; intro w' hS; have s0 := H6k.out.below hS h6l; have s1 := H6w.out.below hS h6wl; clear hS; unfold Oper.wp; go_simp; first | done | exact Below.refl _ _)
          · (with_reducible refine FixB.of ?_ ?_; rfl; intro w' hS; have s0 := H6k.out.below hS h6l; have s1 := H6w.out.below hS h6wl; clear hS; unfold Oper.wp; go_simp; first | done | exact Below.refl _ _)
          · (with_reducible refine FixB.of ?_ ?_; rfl; intro w' hS; have s0 := H6k.out.below hS h6l; have s1 := H6w.out.below hS h6wl; clear hS; unfold Oper.wp; go_simp; first | done | exact Below.refl _ _)
          · (with_reducible refine FixB.of ?_ ?_; rfl; intro w' hS; have s0 := H6k.out.below hS h6l; have s1 := H6w.out.below hS h6wl; clear hS; unfold Oper.wp; go_simp; first | done | exact Below.refl _ _)
          · (with_reducible refine FixB.of ?_ ?_; rfl; intro w' hS; have s0 := H6k.out.below hS h6l; have s1 := H6w.out.below hS h6wl; clear hS; unfold Oper.wp; go_simp; first | done | exact Below.refl _ _)
          · (refine FixB.on (by first | rfl | kernel_rfl | (simp [Region.wanted, yielded]; done)) ?_; intro w' hS; have s0 := H6k.out.below hS h6l; have s1 := H6w.out.below hS h6wl; clear hS; unfold Oper.wp; go_simp; first | done | exact Below.refl _ _)
          · (refine FixB.on (by first | rfl | kernel_rfl | (simp [Region.wanted, yielded]; done)) ?_; intro w' hS; have s0 := H6k.out.below hS h6l; have s1 := H6w.out.below hS h6wl; clear hS; unfold Oper.wp; go_simp; first | done | exact Below.refl _ _)
          · (refine FixB.on (by first | rfl | kernel_rfl | (simp [Region.wanted, yielded]; done)) ?_; intro w' hS; have s0 := H6k.out.below hS h6l; have s1 := H6w.out.below hS h6wl; clear hS; unfold Oper.wp; go_simp; first | done | exact Below.refl _ _)
          · (refine FixB.on (by first | rfl | kernel_rfl | (simp [Region.wanted, yielded]; done)) ?_; intro w' hS; have s0 := H6k.out.below hS h6l; have s1 := H6w.out.below hS h6wl; clear hS; unfold Oper.wp; go_simp; first | done | exact Below.refl _ _)
          · (refine FixB.on (by first | rfl | kernel_rfl | (simp [Region.wanted, yielded]; done)) ?_; intro w' hS; have s0 := H6k.out.below hS h6l; have s1 := H6w.out.below hS h6wl; clear hS; unfold Oper.wp; go_simp; first | done | exact Below.refl _ _)
          · (refine FixB.on (by first | rfl | kernel_rfl | (simp [Region.wanted, yielded]; done)) ?_; intro w' hS; have s0 := H6k.out.below hS h6l; have s1 := H6w.out.below hS h6wl; clear hS; unfold Oper.wp; go_simp; first | done | exact Below.refl _ _)
          · (with_reducible refine FixB.of ?_ ?_; rfl; intro w' hS; have s0 := H6k.out.below hS h6l; have s1 := H6w.out.below hS h6wl; clear hS; unfold Oper.wp; go_simp; first | done | exact Below.refl _ _)
        case hQ =>
          intro wc hS _
          have Hb3 := Lib.hid (Hbw.out.trans (hS.mono Hbw.out.size))
          clear H6k H6w heq
          have he := HC.out.eq HA.out (by rw [Hn.out]; exact haN)
          rw [← Hg.out] at he
          cases hdd : d
          · have hnf : f ∉ E := fun h => by have := Hd.out; rw [hdd, he.2 h] at this; simp at this
            have Hnf := Lib.hid hnf
            clear he hnf
            obtain ⟨A, hA'⟩ : ∃ A : Addr, A = ⟨b2, off2, none⟩ := ⟨_, rfl⟩
            rw [← hA'] at Hx ⊢
            clear hA'
            have hB9 : Below w.heap.size w wc := Hbw.out.trans (hS.mono Hbw.out.size)
            have hwl9 : w.heap.size < wc.heap.size := by have := hS.size; omega
            have hS9 : Below wr.heap.size wr wc := hS
            clear hS
            have Hbe := Lib.hid hB9
            have hwl : w.heap.size < wc.heap.size := hwl9
            have HRt : Hid (∀ w', Below wc.heap.size wc w' → RdM w' w'.heap.size (some A) (E.take a)) := fun w' hb' => RdM.take (Rd.more (Rd.below Hx.out (Hbe.out.trans (hb'.mono Hbe.out.size))) (Nat.le_trans Hbe.out.size hb'.size)) a
            have hEt : (E.take a).length = a := by rw [List.length_take, Hn.out]; omega
            have HEt := Lib.hid hEt
            have H6c := Lib.hid (H6.out.below (Hb.out.trans (hS9.mono hsz)) (by omega))
            have hac : a ≤ c := by omega
            have hacz : (a : Int) ≤ (c : Int) := by omega
            clear hS9 hB9 hwl9 hEt
            go_wp2_with fail
            refine wp_region_flags [] rfl (by kernel_rfl) (by kernel_rfl) [] (by kernel_rfl) _
              (fun s : G9 => [.slice (some ⟨s.q0, 0, none⟩) 0 0, .slice (some A) N c, I a, .slice (some A) a c, s.v4, .agg (mc f), .slice (some ⟨s.q6, 0, none⟩) 1 1, s.v7, s.v7])
              (by intro s; simp only [putAll, List.setIfInBounds_toArray, List.set_cons_succ, List.set_cons_zero]; rfl)
              [] rfl _
              (by intro s; simp only [setAll, List.setIfInBounds_toArray, List.set_cons_succ, List.set_cons_zero]; rfl) (by kernel_rfl)
              (fun d s w' => S9 wc (E.take a) f 0 (d 0) (d 4) (d 6) (d 7) s w')
              ⟨0, undef, 0, undef⟩ ((S9.start wc _ f 0 _).below (Below.refl _ _).drew) ?hop ?hQ
            case hop =>
              refine ⟨?_, ?_, ?_, ?_, ?_, ?_, ?_, ?_, ?_, trivial⟩
              · refine ⟨rfl, fun d s w' hd hdeps hcl hS => ?_⟩
                have d4 := hcl.down (k := 4) (j := 0) rfl (by kernel_rfl) hd
                have d7 := hcl.down (k := 7) (j := 4) rfl (by kernel_rfl) d4
                simp only [hd, d4, d7] at hS
                have hS2 := Lib.hid hS.do0
                clear hS hdeps hcl
                unfold Oper.wp
                go_simp
                refine FlagPost.own ({ s with q0 := w'.heap.size } : G9) 40 (.slice (some ⟨w'.heap.size, 0, none⟩) 0 0) rfl rfl rfl ?_ rfl
                show S9 _ _ _ _ true (d 4) (d 6) (d 7) _ _
                rw [d4, d7]
                exact hS2.out
              · refine ⟨rfl, Flag.pure (fun _ _ _ h => h) fun d c w' hd hdeps hcl hS => ?_⟩
                skip
                clear hS hdeps hcl hd
                unfold Oper.wp
                go_simp
                exact ⟨rfl, fun t ht => by injection ht with ht; subst ht; rfl, rfl⟩
              · refine ⟨rfl, Flag.pure (fun _ _ _ h => h) fun d c w' hd hdeps hcl hS => ?_⟩
                skip
                clear hS hdeps hcl hd
                unfold Oper.wp
                go_simp
                exact ⟨rfl, fun t ht => by injection ht with ht; subst ht; rfl, rfl⟩
              · refine ⟨rfl, Flag.pure (fun _ _ _ h => h) fun d c w' hd hdeps hcl hS => ?_⟩
                skip
                clear hS hdeps hcl hd
                unfold Oper.wp
                go_simp
                exact ⟨rfl, fun t ht => by injection ht with ht; subst ht; rfl, rfl⟩
              · refine ⟨rfl, fun d s w' hd hdeps hcl hS => ?_⟩
                have d0 := hdeps 0 (by kernel_rfl)
                have d7 := hcl.down (k := 7) (j := 4) rfl (by kernel_rfl) hd
                simp only [d0, hd, d7] at hS
                refine wp_catM (.tmp 40) (.tmp 43) rfl wc.heap.size (.slice (some ⟨s.q0, 0, none⟩) 0 0) [] (E.take a) rfl (hS.s0 rfl rfl) A a c rfl (HRt.out _ hS.bel) HEt.out (by simp; omega) hS.bel.size ?_
                intro v' w2 ho hg
                refine FlagPost.own ({ s with v4 := v' } : G9) 44 v' rfl rfl rfl ?_ rfl
                show S9 _ _ _ _ (d 0) true (d 6) (d 7) _ _
                rw [d0, d7]
                exact hS.do4 (by simpa using ho) hg
              · refine ⟨rfl, Flag.pure (fun _ _ _ h => h) fun d c w' hd hdeps hcl hS => ?_⟩
                have s0 := H6c.out.below hS.bel hwl
                clear hS hdeps hcl hd
                unfold Oper.wp
                go_simp
                exact ⟨rfl, fun t ht => by injection ht with ht; subst ht; rfl, rfl⟩
              · refine ⟨rfl, fun d s w' hd hdeps hcl hS => ?_⟩
                have d7 := hcl.down (k := 7) (j := 6) rfl (by kernel_rfl) hd
                simp only [hd, d7] at hS
                have hS2 := Lib.hid hS.do6
                clear hS hdeps hcl
                unfold Oper.wp
                go_simp
                refine FlagPost.own ({ s with q6 := w'.heap.size } : G9) 46 (.slice (some ⟨w'.heap.size, 0, none⟩) 1 1) rfl rfl rfl ?_ rfl
                show S9 _ _ _ _ (d 0) (d 4) true (d 7) _ _
                rw [d7]
                exact hS2.out
              · refine ⟨rfl, fun d s w' hd hdeps hcl hS => ?_⟩
                have d4 := hdeps 4 (by kernel_rfl)
                have d6 := hdeps 6 (by kernel_rfl)
                have d0 := hcl.up (k := 4) (j := 0) rfl (by kernel_rfl) d4
                simp only [d0, d4, d6, hd] at hS
                refine wp_pushM (.tmp 44) (.tmp 46) rfl wc.heap.size s.v4 (E.take a) rfl (hS.s4 rfl rfl) s.q6 1 f rfl (hS.s6 rfl rfl).1 (by rw [HEt.out]; omega) hS.bel.size ?_
                intro g' cap w2 hown hgr _ _
                refine FlagPost.two ({ s with v7 := .slice (some ⟨g', 0, none⟩) ((E.take a).length + 1) cap } : G9) 47 (.slice (some ⟨g', 0, none⟩) ((E.take a).length + 1) cap) 8 _ 8 rfl rfl rfl ?_ rfl rfl rfl (by decide) (hcl.down (k := 8) (j := 7) rfl (by kernel_rfl) hd)
                show S9 _ _ _ _ (d 0) (d 4) (d 6) true _ _
                rw [d0, d4, d6]
                exact hS.do7 hown hgr
              · refine ⟨rfl, Flag.pure (fun _ _ _ h => h) fun d c w' hd hdeps hcl hS => ?_⟩
                skip
                clear hS hdeps hcl hd
                unfold Oper.wp
                go_simp
                exact ⟨rfl, fun t ht => by injection ht with ht; subst ht; rfl, rfl⟩
            case hQ =>
              intro d s we hall hS
              have hS : S9 wc (E.take a) f 0 (d 0) (d 4) (d 6) (d 7) s we := hS
              rw [hall 0 (by decide), hall 4 (by decide), hall 6 (by decide), hall 7 (by decide)] at hS
              clear hall
              obtain ⟨q0, v4, q6, v7⟩ := s
              have h7 := hS.s7 rfl
              obtain ⟨g7, c7, e⟩ := h7.some_ (by simp)
              simp only at e h7
              subst e
              have hl7 : (E.take a ++ [f]).length = a + 1 := by rw [List.length_append, HEt.out]; rfl
              rw [hl7] at h7 ⊢
              have H7 := Lib.hid h7
              have HBw := Lib.hid (Hbe.out.trans (hS.bel.mono Hbe.out.size))
              have hwe := hS.bel.size
              clear h7 hS
              have hdl : (E.drop a).length = N - a := by rw [List.length_drop, Hn.out]
              have Hdl := Lib.hid hdl
              have HRd := Lib.hid (Rd.more (Rd.below Hx.out HBw.out) HBw.out.size)
              have Hins := Lib.hid (insM_cut HC.out HA.out Hnf.out)
              clear hdl hl7
              by_cases hca : c = a
              · have hNa : N = a := by omega
                have hdr : E.drop a = [] := List.drop_eq_nil_of_le (by rw [Hn.out]; omega)
                have HRd2 : Hid (RdM we we.heap.size (some A) (E.drop a)) := by
                  show RdM _ _ _ _
                  rw [hdr]; exact ⟨rfl, fun h => absurd h (by simp)⟩
                clear hdr
                subst hca
                subst hNa
                have Hd0 : Hid ((E.drop N).length = 0) := by show _ = _; rw [Hdl.out]; omega
                go_wp2_with (at_builtin; refine wpList_catM rfl (.tmp 48) (.tmp 51) rfl wc.heap.size (.slice (some ⟨g7, 0, none⟩) (N + 1) c7) (E.take N ++ [f]) (E.drop N) rfl H7.out (some A) 0 0 rfl (fun h => (by cases h)) HRd2.out Hd0.out (by rw [List.length_append, HEt.out]; simp; omega) hwe ?_; intro v' w4 ho' hgr)
                have hB4 := H7.out.bel HBw.out hgr (by omega) (by omega)
                rw [← Hins.out] at ho'
                obtain ⟨g8, c8, e8, hc8⟩ := ho'.capOf (by rw [Hins.out]; simp; omega)
                subst e8
                have Hc8 := Lib.hid hc8
                have Hg8 : w.heap.size ≤ g8 := Nat.le_trans Hbe.out.size (ho'.lt g8 rfl).1
                have HR8 := Lib.hid ho'.rd
                have HB4 := Lib.hid hB4
                clear ho' hgr hB4 hc8
                go_wp2
                go_ret
                exact ⟨⟨g8, 0, none⟩, c8, rfl, Hc8.out, HR8.out, .inr Hg8, HB4.out⟩
              · have hca2 : ¬ ((c : Int) = (a : Int)) := by omega
                obtain ⟨Ab, Ao, At⟩ := A
                have hRd2 : RdM we we.heap.size (some (Addr.add ⟨Ab, Ao, At⟩ (a * 6))) (E.drop a) := by
                  refine ⟨mcs_length _, fun hpos => ?_⟩
                  obtain ⟨b', off', e, hb', hc'⟩ := HRd.out.2 (by rw [List.length_drop] at hpos; omega)
                  injection e with e
                  injection e with e1 e2 e3
                  subst e1 e2 e3
                  have hd := RdM.drop HRd.out (a := a) (by rw [Hn.out]; omega)
                  have h2 := hd.2 hpos
                  unfold Addr.add
                  split
                  · rename_i h0; rw [h0, Nat.add_zero] at h2; exact h2
                  · exact h2
                have HRd2 := Lib.hid hRd2
                clear hRd2
                go_wp2_with (at_builtin; refine wpList_catM rfl (.tmp 48) (.tmp 51) rfl wc.heap.size (.slice (some ⟨g7, 0, none⟩) (a + 1) c7) (E.take a ++ [f]) (E.drop a) rfl H7.out (some (Addr.add ⟨Ab, Ao, At⟩ (a * 6))) (N - a) (c - a) rfl (fun h => (by cases h)) HRd2.out Hdl.out (by rw [List.length_append, HEt.out]; simp; omega) hwe ?_; intro v' w4 ho' hgr)
                have hB4 := H7.out.bel HBw.out hgr (by omega) (by omega)
                rw [← Hins.out] at ho'
                obtain ⟨g8, c8, e8, hc8⟩ := ho'.capOf (by rw [Hins.out]; simp; omega)
                subst e8
                have Hc8 := Lib.hid hc8
                have Hg8 : w.heap.size ≤ g8 := Nat.le_trans Hbe.out.size (ho'.lt g8 rfl).1
                have HR8 := Lib.hid ho'.rd
                have HB4 := Lib.hid hB4
                clear ho' hgr hB4 hc8
                go_wp2
                go_ret
                exact ⟨⟨g8, 0, none⟩, c8, rfl, Hc8.out, HR8.out, .inr Hg8, HB4.out⟩
          · have hgf : g = f := by have := Hd.out; rw [hdd] at this; exact of_decide_eq_true this.symm
            have hin := he.1 hgf
            clear hS
            have Hp : Hid (insM f E = E) := insM_in HA.out hin
            have Hr := Lib.hid (Rd.more (Rd.below Hx.out Hb3.out) Hb3.out.size)
            clear he hgf
            go_wp2
            go_ret
            refine ⟨⟨b2, off2, none⟩, c, ?_, ?_, ?_, .inl rfl, Hb3.out⟩
            · rw [Hp.out, Hn.out]; rfl
            · rw [Hp.out, Hn.out]; exact hNc
            · rw [Hp.out]; exact Hr.out
      · have hnf : f ∉ E := fun h => by have := (HC.out.in_ HA.out h).1; rw [Hn.out] at this; omega
        have Hnf := Lib.hid hnf
        have hkN : ¬ ((a : Int) < (N : Int)) := by omega
        clear b0
        go_wp2_with fail
        refine wp_region_same [] rfl (by kernel_rfl) (by kernel_rfl) (by kernel_rfl) (fun w' => Below wr.heap.size wr w') _
          [I a, .slice (some A) N c, I N, .bool false, .bool false, undef, undef, undef, undef, undef, undef, .bool false]
          (by simp only [putAll, List.setIfInBounds_toArray, List.set_cons_succ, List.set_cons_zero]; rfl) (Below.refl _ _).drew ?hop ?hQ
        case hop =>
          refine FixBL.toL (fun w' w'' hS hb => hS.trans (hb.mono hS.size)) _ _ ?_
          refine ⟨.inr ?_, .inr ?_, .inr ?_, .inr ?_, .inr ?_, .inr ?_, .inr ?_, .inr ?_, .inr ?_, .inr ?_, .inr ?_, .inr ?_, trivial⟩
          · (with_reducible refine FixB.of ?_ ?_; rfl; intro w' hS; clear hS; unfold Oper.wp; go_simp; first | done | exact Below.refl _ _)
          · (with_reducible refine FixB.of ?_ ?_; rfl; intro w' hS; clear hS; unfold Oper.wp; go_simp; first | done | exact Below.refl _ _)
          · (with_reducible refine FixB.of ?_ ?_; rfl; intro w' hS; clear hS; unfold Oper.wp; go_simp; first | done | exact Below.refl _ _)
          · (with_reducible refine FixB.of ?_ ?_; rfl; intro w' hS; clear hS; unfold Oper.wp; go_simp; first | done | exact Below.refl _ _)
          · (with_reducible refine FixB.of ?_ ?_; rfl; intro w' hS; clear hS; unfold Oper.wp; go_simp; first | done | exact Below.refl _ _)
          · exact FixB.off (by first | rfl | kernel_rfl | (simp [Region.wanted, yielded]; done)) rfl
          · exact FixB.off (by first | rfl | kernel_rfl | (simp [Region.wanted, yielded]; done)) rfl
          · exact FixB.off (by first | rfl | kernel_rfl | (simp [Region.wanted, yielded]; done)) rfl
          · exact FixB.off (by first | rfl | kernel_rfl | (simp [Region.wanted, yielded]; done)) rfl
          · exact FixB.off (by first | rfl | kernel_rfl | (simp [Region.wanted, yielded]; done)) rfl
          · exact FixB.off (by first | rfl | kernel_rfl | (simp [Region.wanted, yielded]; done)) rfl
          · (with_reducible refine FixB.of ?_ ?_; rfl; intro w' hS; clear hS; unfold Oper.wp; go_simp; first | done | exact Below.refl _ _)
        case hQ =>
          intro wc hS _
          have hB9 : Below w.heap.size w wc := Hbw.out.trans (hS.mono Hbw.out.size)
          have hwl9 : w.heap.size < wc.heap.size := by have := hS.size; omega
          have hS9 : Below wr.heap.size wr wc := hS
          clear hS
          have Hbe := Lib.hid hB9
          have hwl : w.heap.size < wc.heap.size := hwl9
          have HRt : Hid (∀ w', Below wc.heap.size wc w' → RdM w' w'.heap.size (some A) (E.take a)) := fun w' hb' => RdM.take (Rd.more (Rd.below Hx.out (Hbe.out.trans (hb'.mono Hbe.out.size))) (Nat.le_trans Hbe.out.size hb'.size)) a
          have hEt : (E.take a).length = a := by rw [List.length_take, Hn.out]; omega
          have HEt := Lib.hid hEt
          have H6c := Lib.hid (H6.out.below (Hb.out.trans (hS9.mono hsz)) (by omega))
          have hac : a ≤ c := by omega
          have hacz : (a : Int) ≤ (c : Int) := by omega
          clear hS9 hB9 hwl9 hEt
          go_wp2_with fail
          refine wp_region_flags [] rfl (by kernel_rfl) (by kernel_rfl) [] (by kernel_rfl) _
            (fun s : G9 => [.slice (some ⟨s.q0, 0, none⟩) 0 0, .slice (some A) N c, I a, .slice (some A) a c, s.v4, .agg (mc f), .slice (some ⟨s.q6, 0, none⟩) 1 1, s.v7, s.v7])
            (by intro s; simp only [putAll, List.setIfInBounds_toArray, List.set_cons_succ, List.set_cons_zero]; rfl)
            [] rfl _
            (by intro s; simp only [setAll, List.setIfInBounds_toArray, List.set_cons_succ, List.set_cons_zero]; rfl) (by kernel_rfl)
            (fun d s w' => S9 wc (E.take a) f 0 (d 0) (d 4) (d 6) (d 7) s w')
            ⟨0, undef, 0, undef⟩ ((S9.start wc _ f 0 _).below (Below.refl _ _).drew) ?hop ?hQ
          case hop =>
            refine ⟨?_, ?_, ?_, ?_, ?_, ?_, ?_, ?_, ?_, trivial⟩
            · refine ⟨rfl, fun d s w' hd hdeps hcl hS => ?_⟩
              have d4 := hcl.down (k := 4) (j := 0) rfl (by kernel_rfl) hd
              have d7 := hcl.down (k := 7) (j := 4) rfl (by kernel_rfl) d4
              simp only [hd, d4, d7] at hS
              have hS2 := Lib.hid hS.do0
              clear hS hdeps hcl
              unfold Oper.wp
              go_simp
              refine FlagPost.own ({ s with q0 := w'.heap.size } : G9) 40 (.slice (some ⟨w'.heap.size, 0, none⟩) 0 0) rfl rfl rfl ?_ rfl
              show S9 _ _ _ _ true (d 4) (d 6) (d 7) _ _
              rw [d4, d7]
              exact hS2.out
            · refine ⟨rfl, Flag.pure (fun _ _ _ h => h) fun d c w' hd hdeps hcl hS => ?_⟩
              skip
              clear hS hdeps hcl hd
              unfold Oper.wp
              go_simp
              exact ⟨rfl, fun t ht => by injection ht with ht; subst ht; rfl, rfl⟩
            · refine ⟨rfl, Flag.pure (fun _ _ _ h => h) fun d c w' hd hdeps hcl hS => ?_⟩
              skip
              clear hS hdeps hcl hd
              unfold Oper.wp
              go_simp
              exact ⟨rfl, fun t ht => by injection ht with ht; subst ht; rfl, rfl⟩
            · refine ⟨rfl, Flag.pure (fun _ _ _ h => h) fun d c w' hd hdeps hcl hS => ?_⟩
              skip
              clear hS hdeps hcl hd
              unfold Oper.wp
              go_simp
              exact ⟨rfl, fun t ht => by injection ht with ht; subst ht; rfl, rfl⟩
            · refine ⟨rfl, fun d s w' hd hdeps hcl hS => ?_⟩
              have d0 := hdeps 0 (by kernel_rfl)
              have d7 := hcl.down (k := 7) (j := 4) rfl (by kernel_rfl) hd
              simp only [d0, hd, d7] at hS
              refine wp_catM (.tmp 40) (.tmp 43) rfl wc.heap.size (.slice (some ⟨s.q0, 0, none⟩) 0 0) [] (E.take a) rfl (hS.s0 rfl rfl) A a c rfl (HRt.out _ hS.bel) HEt.out (by simp; omega) hS.bel.size ?_
              intro v' w2 ho hg
              refine FlagPost.own ({ s with v4 := v' } : G9) 44 v' rfl rfl rfl ?_ rfl
              show S9 _ _ _ _ (d 0) true (d 6) (d 7) _ _
              rw [d0, d7]
              exact hS.do4 (by simpa using ho) hg
            · refine ⟨rfl, Flag.pure (fun _ _ _ h => h) fun d c w' hd hdeps hcl hS => ?_⟩
              have s0 := H6c.out.below hS.bel hwl
              clear hS hdeps hcl hd
              unfold Oper.wp
              go_simp
              exact ⟨rfl, fun t ht => by injection ht with ht; subst ht; rfl, rfl⟩
            · refine ⟨rfl, fun d s w' hd hdeps hcl hS => ?_⟩
              have d7 := hcl.down (k := 7) (j := 6) rfl (by kernel_rfl) hd
              simp only [hd, d7] at hS
              have hS2 := Lib.hid hS.do6
              clear hS hdeps hcl
              unfold Oper.wp
              go_simp
              refine FlagPost.own ({ s with q6 := w'.heap.size } : G9) 46 (.slice (some ⟨w'.heap.size, 0, none⟩) 1 1) rfl rfl rfl ?_ rfl
              show S9 _ _ _ _ (d 0) (d 4) true (d 7) _ _
              rw [d7]
              exact hS2.out
            · refine ⟨rfl, fun d s w' hd hdeps hcl hS => ?_⟩
              have d4 := hdeps 4 (by kernel_rfl)
              have d6 := hdeps 6 (by kernel_rfl)
              have d0 := hcl.up (k := 4) (j := 0) rfl (by kernel_rfl) d4
              simp only [d0, d4, d6, hd] at hS
              refine wp_pushM (.tmp 44) (.tmp 46) rfl wc.heap.size s.v4 (E.take a) rfl (hS.s4 rfl rfl) s.q6 1 f rfl (hS.s6 rfl rfl).1 (by rw [HEt.out]; omega) hS.bel.size ?_
              intro g' cap w2 hown hgr _ _
              refine FlagPost.two ({ s with v7 := .slice (some ⟨g', 0, none⟩) ((E.take a).length + 1) cap } : G9) 47 (.slice (some ⟨g', 0, none⟩) ((E.take a).length + 1) cap) 8 _ 8 rfl rfl rfl ?_ rfl rfl rfl (by decide) (hcl.down (k := 8) (j := 7) rfl (by kernel_rfl) hd)
              show S9 _ _ _ _ (d 0) (d 4) (d 6) true _ _
              rw [d0, d4, d6]
              exact hS.do7 hown hgr
            · refine ⟨rfl, Flag.pure (fun _ _ _ h => h) fun d c w' hd hdeps hcl hS => ?_⟩
              skip
              clear hS hdeps hcl hd
              unfold Oper.wp
              go_simp
              exact ⟨rfl, fun t ht => by injection ht with ht; subst ht; rfl, rfl⟩
          case hQ =>
            intro d s we hall hS
            have hS : S9 wc (E.take a) f 0 (d 0) (d 4) (d 6) (d 7) s we := hS
            rw [hall 0 (by decide), hall 4 (by decide), hall 6 (by decide), hall 7 (by decide)] at hS
            clear hall
            obtain ⟨q0, v4, q6, v7⟩ := s
            have h7 := hS.s7 rfl
            obtain ⟨g7, c7, e⟩ := h7.some_ (by simp)
            simp only at e h7
            subst e
            have hl7 : (E.take a ++ [f]).length = a + 1 := by rw [List.length_append, HEt.out]; rfl
            rw [hl7] at h7 ⊢
            have H7 := Lib.hid h7
            have HBw := Lib.hid (Hbe.out.trans (hS.bel.mono Hbe.out.size))
            have hwe := hS.bel.size
            clear h7 hS
            have hdl : (E.drop a).length = N - a := by rw [List.length_drop, Hn.out]
            have Hdl := Lib.hid hdl
            have HRd := Lib.hid (Rd.more (Rd.below Hx.out HBw.out) HBw.out.size)
            have Hins := Lib.hid (insM_cut HC.out HA.out Hnf.out)
            clear hdl hl7
            by_cases hca : c = a
            · have hNa : N = a := by omega
              have hdr : E.drop a = [] := List.drop_eq_nil_of_le (by rw [Hn.out]; omega)
              have HRd2 : Hid (RdM we we.heap.size (some A) (E.drop a)) := by
                show RdM _ _ _ _
                rw [hdr]; exact ⟨rfl, fun h => absurd h (by simp)⟩
              clear hdr
              subst hca
              subst hNa
              have Hd0 : Hid ((E.drop N).length = 0) := by show _ = _; rw [Hdl.out]; omega
              go_wp2_with (at_builtin; refine wpList_catM rfl (.tmp 48) (.tmp 51) rfl wc.heap.size (.slice (some ⟨g7, 0, none⟩) (N + 1) c7) (E.take N ++ [f]) (E.drop N) rfl H7.out (some A) 0 0 rfl (fun h => (by cases h)) HRd2.out Hd0.out (by rw [List.length_append, HEt.out]; simp; omega) hwe ?_; intro v' w4 ho' hgr)
              have hB4 := H7.out.bel HBw.out hgr (by omega) (by omega)
              rw [← Hins.out] at ho'
              obtain ⟨g8, c8, e8, hc8⟩ := ho'.capOf (by rw [Hins.out]; simp; omega)
              subst e8
              have Hc8 := Lib.hid hc8
              have Hg8 : w.heap.size ≤ g8 := Nat.le_trans Hbe.out.size (ho'.lt g8 rfl).1
              have HR8 := Lib.hid ho'.rd
              have HB4 := Lib.hid hB4
              clear ho' hgr hB4 hc8
              go_wp2
              go_ret
              exact ⟨⟨g8, 0, none⟩, c8, rfl, Hc8.out, HR8.out, .inr Hg8, HB4.out⟩
            · have hca2 : ¬ ((c : Int) = (a : Int)) := by omega
              obtain ⟨Ab, Ao, At⟩ := A
              have hRd2 : RdM we we.heap.size (some (Addr.add ⟨Ab, Ao, At⟩ (a * 6))) (E.drop a) := by
                refine ⟨mcs_length _, fun hpos => ?_⟩
                obtain ⟨b', off', e, hb', hc'⟩ := HRd.out.2 (by rw [List.length_drop] at hpos; omega)
                injection e with e
                injection e with e1 e2 e3
                subst e1 e2 e3
                have hd := RdM.drop HRd.out (a := a) (by rw [Hn.out]; omega)
                have h2 := hd.2 hpos
                unfold Addr.add
                split
                · rename_i h0; rw [h0, Nat.add_zero] at h2; exact h2
                · exact h2
              have HRd2 := Lib.hid hRd2
              clear hRd2
              go_wp2_with (at_builtin; refine wpList_catM rfl (.tmp 48) (.tmp 51) rfl wc.heap.size (.slice (some ⟨g7, 0, none⟩) (a + 1) c7) (E.take a ++ [f]) (E.drop a) rfl H7.out (some (Addr.add ⟨Ab, Ao, At⟩ (a * 6))) (N - a) (c - a) rfl (fun h => (by cases h)) HRd2.out Hdl.out (by rw [List.length_append, HEt.out]; simp; omega) hwe ?_; intro v' w4 ho' hgr)
              have hB4 := H7.out.bel HBw.out hgr (by omega) (by omega)
              rw [← Hins.out] at ho'
              obtain ⟨g8, c8, e8, hc8⟩ := ho'.capOf (by rw [Hins.out]; simp; omega)
              subst e8
              have Hc8 := Lib.hid hc8
              have Hg8 : w.heap.size ≤ g8 := Nat.le_trans Hbe.out.size (ho'.lt g8 rfl).1
              have HR8 := Lib.hid ho'.rd
              have HB4 := Lib.hid hB4
              clear ho' hgr hB4 hc8
              go_wp2
              go_ret
              exact ⟨⟨g8, 0, none⟩, c8, rfl, Hc8.out, HR8.out, .inr Hg8, HB4.out⟩
end Go.Proofs.Ytknknljkmkfmoaa
