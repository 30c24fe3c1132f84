/- The contract of newMonoid; the maps are as the theorem states. -/
import Derived.Test.YtchjegojcpbfpaaGreatQM05
set_option linter.unusedSimpArgs false
set_option linter.unusedVariables false
namespace Go.Proofs.YtchjegojcpbfpaaGreat
open Go.RowKit
set_option maxRecDepth 100000
set_option linter.unusedSimpArgs false
def cloC (gens : List M) (n : Int) : Int := if (clo gens n).isSome then 0 else 3
theorem allC_done {gens : List M} {fuel i : Nat} {ps : Met} (h : ¬ i < ps.length) : allC gens fuel i ps = some ps := by
  cases fuel with
  | zero => rfl
  | succ fuel => rw [allC, if_neg h]
theorem plc0 (n : Int) : Plc n [] fun _ => 0 := fun f _ _ => (plOf_nil f).symm
theorem NSt.start {n : Int} {w w2 : World} {gF gW : Nat} (h1 : 1 ≤ n) (h5 : n ≤ 5) (hbel : Below w.heap.size w w2) (hM : Mono w2 w.heap.size (.slice none 0 0) (.slice none 0 0) fun _ => 0)
    (hF : OwM 31 w2 (w.heap.size + 1) (.slice (some ⟨gF, 0, none⟩) 1 1) [one n]) (hW : OwV 39 w2 (w.heap.size + 1) (.slice (some ⟨gW, 0, none⟩) 1 1) [.slice none 0 0]) (hne : gF ≠ gW) :
    NSt n w [(one n, [])] [.slice none 0 0] (fun j => if j = (num (one n)).toNat then 1 else 0) (.slice (some ⟨gF, 0, none⟩) 1 1) (.slice (some ⟨gW, 0, none⟩) 1 1) (w2.setCell ⟨w.heap.size, 2 + (num (one n)).toNat, none⟩ (I 1)) := by
  have hb := num_bd (Valid.one h1 h5)
  have hF' := hF.lt gF rfl
  have hW' := hW.lt gW rfl
  refine ⟨hbel.setCell (p := ⟨w.heap.size, 2 + (num (one n)).toNat, none⟩) (Nat.le_refl _) _, hM.setp (k := (num (one n)).toNat) (by omega) 1, ?_, ?_, ?_, rfl, ?_, ?_, ?_, ?_⟩
  · have := (plc0 n).step (Valid.one h1 h5) rfl (by simp)
    simpa using this
  · exact hF.keep fun g hg => by
      have : g = gF := by simpa [Value.ownBlock] using hg.symm
      subst this
      exact Below.heap_setCell w2 _ _ _ (by show g ≠ w.heap.size; omega)
  · exact hW.keep fun g hg => by
      have : g = gW := by simpa [Value.ownBlock] using hg.symm
      subst this
      exact Below.heap_setCell w2 _ _ _ (by show g ≠ w.heap.size; omega)
  · intro j hj
    obtain rfl : j = 0 := by simp at hj; omega
    exact OwI.nil_
  · intro j hj _
    obtain rfl : j = 0 := by simp at hj; omega
    rfl
  · intro g hg
    have : g = gF := by simpa [Value.ownBlock] using hg.symm
    subst this
    simp [Value.ownBlock]
    omega
  · intro j hj g hg
    obtain rfl : j = 0 := by simp at hj; omega
    simp [gv, Value.ownBlock] at hg
set_option maxHeartbeats 4000000 in
theorem newMonoid_any (A : Option Addr) (L c : Nat) (gens : List M) (n : Int) (w : World) (hx : RdM w w.heap.size A gens) (hl : gens.length = L) (hL : L < 1073741824) (h1 : 1 ≤ n) (h5 : n ≤ 5) (hG : Pts n gens) :
    Calls Tryz.prog 72 #[.slice A L c, I n] w fun e w' => ∃ r, e = .returned (.tuple #[r, I (cloC gens n)]) ∧ Below w.heap.size w w' ∧ (clo gens n = none → r = .pointer none) ∧ ∀ ps, clo gens n = some ps → ∃ g, r = .pointer (some ⟨g, 0, none⟩) ∧ MonAt n w.heap.size g (sortM (ps.map (·.1))) ((sortM (ps.map (·.1))).map (wordOf ps)) w' := by
  have Hx := Lib.hid hx
  have Hl := Lib.hid hl
  have HG := Lib.hid hG
  have hv1 := Valid.one h1 h5
  have hb0 := (num_bd hv1).1
  have hb1 := (num_bd hv1).2
  clear hx hl hG
  go_enter Tryz.func72, Tryz.ntmps72
  go_wp2_with (with_reducible refine wpList_buildMono rfl rfl ?_)
  refine (identity_any n _ h1 h5).mono ?_
  rintro e w1 ⟨rfl, hbb⟩
  have hM : Mono w1 w.heap.size (.slice none 0 0) (.slice none 0 0) fun _ => 0 := (Mono.new w).below hbb (by simp)
  have hbel : Below w.heap.size w w1 := Below.trans (by (repeat (first | with_reducible assumption | with_reducible exact Below.refl _ _ | with_reducible refine Below.setCell ?_ (by first | omega | (simp <;> omega)) _ | with_reducible refine Below.alloc ?_ (by first | omega | (simp <;> omega)) _ | with_reducible refine Below.drew ?_ | with_reducible refine Below.drewN ?_ _))) (hbb.mono (by simp))
  have hlt0 := hM.lt
  clear hbb
  obtain ⟨w2, hw2⟩ : ∃ w2, w2 = (w1.alloc (.cells (mc (one n)) 31)).alloc (.cells #[.slice none 0 0] 39) := ⟨_, rfl⟩
  have HF : Hid (OwM 31 w2 (w.heap.size + 1) (.slice (some ⟨w1.heap.size, 0, none⟩) 1 1) [one n]) := by
    show OwM _ _ _ _ _
    rw [hw2]; exact (OwM.one (by omega)).alloc _
  have HW : Hid (OwV 39 w2 (w.heap.size + 1) (.slice (some ⟨w1.heap.size + 1, 0, none⟩) 1 1) [.slice none 0 0]) := by
    show OwV _ _ _ _ _
    rw [hw2]
    have := OwV.one (e := 39) (B := w.heap.size + 1) (w := w1.alloc (.cells (mc (one n)) 31)) (u := .slice none 0 0) (by simp; omega)
    simpa using this
  have HM : Hid (Mono w2 w.heap.size (.slice none 0 0) (.slice none 0 0) fun _ => 0) := by
    show Mono _ _ _ _ _
    rw [hw2]; exact (hM.alloc _).alloc _
  have H6 : Hid (Six w2 w1.heap.size (one n)) := by
    show Six _ _ _
    rw [hw2]; exact Six.alloc (Blk.six (Blk.new w1 _ _)) _
  have HB : Hid (Below w.heap.size w w2) := by
    show Below _ _ _
    rw [hw2]; exact (hbel.alloc hbel.size _).alloc (by simp; omega) _
  have hsz2 : w2.heap.size = w1.heap.size + 2 := by rw [hw2]; simp
  have Hw2 := Lib.hid hw2
  clear hM hbel hw2
  go_wp2_with fail
  rw [← Hw2.out]
  clear Hw2
  refine wp_region_last [] rfl (by kernel_rfl) (by kernel_rfl) (by kernel_rfl) (by kernel_rfl) (fun w' => Below w2.heap.size w2 w')
    (fun w' => ∃ w3, Below w2.heap.size w2 w3 ∧ w' = w3.setCell ⟨w.heap.size, 2 + (num (one n)).toNat, none⟩ (I 1)) _
    [.pointer (some ⟨w.heap.size, 0, none⟩), .slice (some ⟨w1.heap.size, 0, none⟩) 1 1, .pointer (some ⟨w1.heap.size, 0, none⟩), .agg (mc (one n)), I (num (one n)), .pointer (some ⟨w.heap.size, 0, none⟩), .pointer (some ⟨w.heap.size, 2, none⟩), .pointer (some ⟨w.heap.size, 2 + (num (one n)).toNat, none⟩), undef]
    (by simp only [putAll, List.setIfInBounds_toArray, List.set_cons_succ, List.set_cons_zero]; rfl) (Below.refl _ _).drew 8 _ rfl rfl ?hop ?hst ?hQ
  case hop =>
    refine FixBL.toL (fun w' w'' hS hb => hS.trans (hb.mono hS.size)) _ _ ?_
    refine ⟨.inr ?_, .inr ?_, .inr ?_, .inr ?_, .inr ?_, .inr ?_, .inr ?_, .inr ?_, .inl rfl, trivial⟩
    · (with_reducible refine FixB.of ?_ ?_; rfl; intro w' hS; have s0 := H6.out.below hS (by omega); clear hS; unfold Oper.wp; go_simp; first | done | exact Below.refl _ _)
    · (with_reducible refine FixB.of ?_ ?_; rfl; intro w' hS; have s0 := H6.out.below hS (by omega); clear hS; unfold Oper.wp; go_simp; first | done | exact Below.refl _ _)
    · (with_reducible refine FixB.of ?_ ?_; rfl; intro w' hS; have s0 := H6.out.below hS (by omega); clear hS; unfold Oper.wp; go_simp; first | done | exact Below.refl _ _)
    · (with_reducible refine FixB.of ?_ ?_; rfl; intro w' hS; have s0 := H6.out.below hS (by omega); clear hS; unfold Oper.wp; go_simp; first | done | exact Below.refl _ _)
    · (with_reducible refine FixB.of ?_ ?_; rfl; intro w' hS; have s3 := Lib.hid hS; unfold Oper.wp; clear hS; go_simp; refine (number_any (one n) _ hv1).mono ?_; rintro e w1 ⟨rfl, hb⟩; exact ⟨rfl, hb⟩)
    · (with_reducible refine FixB.of ?_ ?_; rfl; intro w' hS; have s0 := H6.out.below hS (by omega); clear hS; unfold Oper.wp; go_simp; first | done | exact Below.refl _ _)
    · (with_reducible refine FixB.of ?_ ?_; rfl; intro w' hS; have s0 := H6.out.below hS (by omega); clear hS; unfold Oper.wp; go_simp; first | done | exact Below.refl _ _)
    · (with_reducible refine FixB.of ?_ ?_; rfl; intro w' hS; have s0 := H6.out.below hS (by omega); clear hS; unfold Oper.wp; go_simp; first | done | exact Below.refl _ _)
  case hst =>
    refine ⟨rfl, fun w' hS => ?_⟩
    have hMM := HM.out.below hS (by omega)
    have c0 := hMM.cp (j := (num (one n)).toNat) (by omega)
    have z0 := hMM.fr (2 + (num (one n)).toNat)
    have Hs := Lib.hid hS
    clear hS hMM
    unfold Oper.wp
    go_simp
    exact ⟨w', hsz2 ▸ Hs.out, rfl⟩
  case hQ =>
    rintro w' ⟨w3, hS, rfl⟩
    have hN := NSt.start h1 h5 (HB.out.trans (hS.mono HB.out.size)) (HM.out.below hS (by omega)) (HF.out.below hS (Nat.le_refl _)) (HW.out.below hS (Nat.le_refl _)) (by omega)
    have HN := Lib.hid hN
    clear hN hS HB HM HF HW H6
    generalize w3.setCell ⟨w.heap.size, 2 + (num (one n)).toNat, none⟩ (I 1) = w4 at HN ⊢
    go_wp2_with fail
    go_loopw [7, 8, 9] (fun vF vW i wr => ∃ (k : Nat) (ps : Met) (vs : List Value) (pl : Nat → Int), i = .int .i64 k ∧ k ≤ ps.length ∧ NSt n w ps vs pl vF vW wr ∧ Good gens n ps ∧ Hid (allC gens (300 - k) k ps = clo gens n)) (fun _ _ i _ => 301 - (intOf i).toNat)
    case atStart => exact ⟨0, _, _, _, rfl, by simp, HN.out, Good.start gens n, rfl⟩
    case round =>
      clear HN hsz2 hlt0
      obtain ⟨k, ps, vs, pl, rfl, hk, hN, hgd, HA⟩ := hrel
      have hlen := hgd.len
      obtain ⟨gF, cF, hvF⟩ := hN.f.some_ (by rw [List.length_map]; obtain ⟨qs, e, _⟩ := hgd.fst; rw [e]; simp)
      rw [List.length_map] at hvF
      subst hvF
      have HN := Lib.hid hN
      have Hgd := Lib.hid hgd
      clear hN hgd
      by_cases hlt : k < ps.length
      · have hki : (k : Int) < (ps.length : Int) := by omega
        have HA2 : Hid ((rowC (pm ps k).1 (pm ps k).2 (gens.drop 0) 0 ps).bind (allC gens (299 - k) (k + 1)) = clo gens n) := by
          have := HA.out
          rw [show 300 - k = (299 - k) + 1 by omega, allC, if_pos hlt] at this
          exact this
        obtain ⟨f, hf⟩ : ∃ f, f = (pm ps k).1 := ⟨_, rfl⟩
        obtain ⟨u, hu⟩ : ∃ u, u = (pm ps k).2 := ⟨_, rfl⟩
        rw [← hf, ← hu] at HA2
        have Hfu : Hid (pm ps k = (f, u)) := by show _ = _; rw [hf, hu]
        clear hf hu HA
        go_wp2_with fail
        go_loopw [39, 7, 8] (fun i vF vW wr => ∃ (j : Nat) (ps : Met) (vs : List Value) (pl : Nat → Int), i = .int .i64 j ∧ j ≤ L ∧ k < ps.length ∧ pm ps k = (f, u) ∧ NSt n w ps vs pl vF vW wr ∧ Good gens n ps ∧ Hid ((rowC f u (gens.drop j) j ps).bind (allC gens (299 - k) (k + 1)) = clo gens n)) (fun i _ _ _ => L - (intOf i).toNat)
        case atStart => exact ⟨0, ps, vs, pl, rfl, by omega, hlt, Hfu.out, HN.out, Hgd.out, HA2⟩
        case round =>
          clear HN Hgd HA2 Hfu hlt hki hk hlen
          obtain ⟨j, ps, vs, pl, rfl, hj, hlt, hfu, hN, hgd, HA⟩ := hrel
          have hlen := hgd.len
          obtain ⟨gF, cF, hvF⟩ := hN.f.some_ (by rw [List.length_map]; omega)
          rw [List.length_map] at hvF
          subst hvF
          obtain ⟨gW, cW, hvW⟩ := hN.wd.some_ (by rw [hN.len]; omega)
          rw [hN.len] at hvW
          subst hvW
          have HN := Lib.hid hN
          have Hgd := Lib.hid hgd
          have Hfu := Lib.hid hfu
          clear hN hgd hfu
          by_cases hjl : j < L
          · obtain ⟨b, off, rfl, hbb, x0, x1, x2, x3, x4, x5⟩ := RdM.at_ (Rd.below Hx.out HN.out.bel) (k := j) (by rw [Hl.out]; exact hjl)
            obtain ⟨g, hg⟩ : ∃ g, g = gm gens j := ⟨_, rfl⟩
            rw [← hg] at x0 x1 x2 x3 x4 x5
            have hgm : g ∈ gens := by rw [hg, gm_eq (by rw [Hl.out]; exact hjl)]; exact List.getElem_mem _
            have hvg := (HG.out g hgm).1
            have hpg := (HG.out g hgm).2
            have hmf : (f, u) ∈ ps := by have := pm_mem hlt; rwa [Hfu.out] at this
            have hMf := Hgd.out.mon _ hmf
            have hvf := (hMf.ok h1 h5 HG.out).1
            have hpf := (hMf.ok h1 h5 HG.out).2
            have hvm : Valid (mul f g) := Valid.mul hvf hvg (by rw [hpf, hpg])
            have hpm : (mul f g).p = n := hpf
            have nb0 := (num_bd hvm).1
            have nb1 := (num_bd hvm).2
            have Hg := Lib.hid hg
            have Hpm := Lib.hid hpm
            have Hmf := Lib.hid hmf
            have ki : (k : Int) < (ps.length : Int) := by omega
            clear hg hgm hpg hMf hpf hvg hpm hmf
            have H6f : Hid (SixAt wr gF (k * 6) f) := by
              have h6 := RdM.at_ HN.out.f.rd (k := k) (by simpa using hlt)
              obtain ⟨b', off', e, _, h6⟩ := h6
              injection e with e
              injection e with e1 e2 _
              subst e1 e2
              have e3 : gm (ps.map (·.1)) k = f := by rw [← pm_fst hlt, Hfu.out]
              rw [Nat.zero_add, e3] at h6
              exact h6
            have hgl := H6f.out.lt
            obtain ⟨wa, hwa⟩ : ∃ wa, wa = wr.alloc (.cells (mc g) 31) := ⟨_, rfl⟩
            have Hwa := Lib.hid hwa
            have H6g : Hid (Six wa wr.heap.size g) := by show Six _ _ _; rw [hwa]; exact Blk.six (Blk.new wr _ _)
            have H6f2 : Hid (SixAt wa gF (k * 6) f) := by show SixAt _ _ _ _; rw [hwa]; exact H6f.out.alloc _
            have HNa := Lib.hid (HN.out.alloc (.cells (mc g) 31))
            rw [← hwa] at HNa
            have hsza : wa.heap.size = wr.heap.size + 1 := by rw [hwa]; simp
            clear hwa HN H6f
            go_wp2_with fail
            rw [← Hwa.out]
            clear Hwa
            refine wp_region_box [] rfl (by kernel_rfl) (by kernel_rfl) (by kernel_rfl) (fun w' => Below wa.heap.size wa w') _
              (fun q => [.slice (some ⟨gF, 0, none⟩) ps.length cF, I k, .pointer (some ⟨gF, k * 6, none⟩), .agg (mc f), .agg (mc g), .agg (mc (mul f g)), .pointer (some ⟨q, 0, none⟩), undef])
              (by intro q; simp only [putAll, List.setIfInBounds_toArray, List.set_cons_succ, List.set_cons_zero]; rfl) (Below.refl _ _).drew 6 7 12 _ _ rfl rfl 31 (mc M0) (mc (mul f g)) (by kernel_rfl) (by kernel_rfl) (by decide) (fun _ _ => rfl) ?hop ?hal ?hst ?hQ
            case hop =>
              intro q
              refine FixBL.toL (fun w' w'' hS hb => hS.trans (hb.mono hS.size)) _ _ ?_
              refine ⟨.inr ?_, .inr ?_, .inr ?_, .inr ?_, .inr ?_, .inr ?_, .inl rfl, .inl rfl, trivial⟩
              · (with_reducible refine FixB.of ?_ ?_; rfl; intro w' hS; have s0 := H6f2.out.below hS (by omega); have s1 := H6g.out.below hS (by omega); clear hS; unfold Oper.wp; go_simp; first | done | exact Below.refl _ _)
              · (with_reducible refine FixB.of ?_ ?_; rfl; intro w' hS; have s0 := H6f2.out.below hS (by omega); have s1 := H6g.out.below hS (by omega); clear hS; unfold Oper.wp; go_simp; first | done | exact Below.refl _ _)
              · (with_reducible refine FixB.of ?_ ?_; rfl; intro w' hS; have s0 := H6f2.out.below hS (by omega); have s1 := H6g.out.below hS (by omega); clear hS; unfold Oper.wp; go_simp; first | done | exact Below.refl _ _)
              · (with_reducible refine FixB.of ?_ ?_; rfl; intro w' hS; have s0 := H6f2.out.below hS (by omega); have s1 := H6g.out.below hS (by omega); clear hS; unfold Oper.wp; go_simp; first | done | exact Below.refl _ _)
              · (with_reducible refine FixB.of ?_ ?_; rfl; intro w' hS; have s0 := H6f2.out.below hS (by omega); have s1 := H6g.out.below hS (by omega); clear hS; unfold Oper.wp; go_simp; first | done | exact Below.refl _ _)
              · (with_reducible refine FixB.of ?_ ?_; rfl; intro w' hS; have s3 := Lib.hid hS; unfold Oper.wp; clear hS; go_simp; refine (times_any f g _ hvf).mono ?_; rintro e w1 ⟨rfl, hb⟩; exact ⟨rfl, hb⟩)
            case hal =>
              intro q
              refine ⟨rfl, fun w' hS => ?_⟩
              have s3 := Lib.hid hS
              clear hS
              unfold Oper.wp
              go_simp
              exact ⟨rfl, hsza ▸ s3.out.alloc s3.out.size _⟩
            case hst =>
              intro q
              refine ⟨rfl, fun w' hS hq hB => ?_⟩
              have s3 := Lib.hid hS
              have d := hB.six
              have z := hB.fr6
              clear hS
              unfold Oper.wp
              go_simp
              exact ⟨hsza ▸ below_st6 s3.out hq _, hB.st6 _, hsza ▸ below_st6 (Below.refl _ _) hq _⟩
            case hQ =>
              intro q wb hS hq hB hbel
              clear hS
              have hqlt := hB.lt
              have hszb := hbel.size
              have HNb := Lib.hid (HNa.out.below hbel (Nat.le_refl _))
              have H6m : Hid (Six wb q (mul f g)) := hB.six
              have HqF : Hid (∀ g', (Value.slice (some ⟨gF, 0, none⟩) ps.length cF).ownBlock = some g' → g' < q) := fun g' hg' => by have := (HNa.out.f.lt g' hg').2; omega
              have HqW : Hid (∀ g', (Value.slice (some ⟨gW, 0, none⟩) ps.length cW).ownBlock = some g' → g' < q) := fun g' hg' => by have := (HNa.out.wd.lt g' hg').2; omega
              have hpl := HNb.out.plc (mul f g) hvm Hpm.out
              have HMb := Lib.hid HNb.out.mono
              obtain ⟨x, hx⟩ : ∃ x, x = pl (num (mul f g)).toNat := ⟨_, rfl⟩
              obtain ⟨m, hm⟩ : ∃ m, m = mul f g := ⟨_, rfl⟩
              rw [← hx] at hpl
              rw [← hm] at hpl hx H6m hvm nb0 nb1
              have Hm := Lib.hid hm
              have Hx2 := Lib.hid hx
              clear hbel hB HNa H6f2 H6g hm hx
              have hgM := HMb.out.lt
              have HC : Hid (∀ w', Below wb.heap.size wb w' → w'.cell? ⟨w.heap.size, 2 + (num m).toNat, none⟩ = some (I x)) := fun w' hb => by
                rw [Hx2.out]; exact (HMb.out.below hb hgM).cp (by omega)
              have hgj : gens.drop j = gm gens j :: gens.drop (j + 1) := drop_cons (by rw [Hl.out]; exact hjl)
              have Hgj : Hid (gens.drop j = g :: gens.drop (j + 1)) := by show _ = _; rw [hgj, ← Hg.out]
              clear hgj
              by_cases hin : m ∈ ps.map (·.1)
              · have hxp : (0 : Int) < x := by rw [hpl, plOf_pos]; exact hin
                have HA4 : Hid ((rowC f u (gens.drop (j + 1)) (j + 1) ps).bind (allC gens (299 - k) (k + 1)) = clo gens n) := by
                  have := HA.out
                  rw [Hgj.out, rowC_in (by rw [← Hm.out]; exact hin)] at this
                  exact this
                clear hin hpl
                go_wp2_with fail
                refine wp_region_same [] rfl (by kernel_rfl) (by kernel_rfl) (by kernel_rfl) (fun w' => Below wb.heap.size wb w') _
                  [.pointer (some ⟨w.heap.size, 0, none⟩), .agg (mc m), I (num m), .pointer (some ⟨w.heap.size, 0, none⟩), .pointer (some ⟨w.heap.size, 2, none⟩), .pointer (some ⟨w.heap.size, 2 + (num m).toNat, none⟩), I x, .bool true]
                  (by simp only [putAll, List.setIfInBounds_toArray, List.set_cons_succ, List.set_cons_zero]; rfl) (Below.refl _ _).drew ?hop ?hQ
                case hop =>
                  refine FixBL.toL (fun w' w'' hS hb => hS.trans (hb.mono hS.size)) _ _ ?_
                  refine ⟨.inr ?_, .inr ?_, .inr ?_, .inr ?_, .inr ?_, .inr ?_, .inr ?_, .inr ?_, trivial⟩
                  · (with_reducible refine FixB.of ?_ ?_; rfl; intro w' hS; have s0 := H6m.out.below hS hqlt; have s1 := HC.out _ hS; clear hS; unfold Oper.wp; go_simp; first | done | exact Below.refl _ _)
                  · (with_reducible refine FixB.of ?_ ?_; rfl; intro w' hS; have s0 := H6m.out.below hS hqlt; have s1 := HC.out _ hS; clear hS; unfold Oper.wp; go_simp; first | done | exact Below.refl _ _)
                  · (with_reducible refine FixB.of ?_ ?_; rfl; intro w' hS; have s3 := Lib.hid hS; unfold Oper.wp; clear hS; go_simp; refine (number_any m _ hvm).mono ?_; rintro e w1 ⟨rfl, hb⟩; exact ⟨rfl, hb⟩)
                  · (with_reducible refine FixB.of ?_ ?_; rfl; intro w' hS; have s0 := H6m.out.below hS hqlt; have s1 := HC.out _ hS; clear hS; unfold Oper.wp; go_simp; first | done | exact Below.refl _ _)
                  · (with_reducible refine FixB.of ?_ ?_; rfl; intro w' hS; have s0 := H6m.out.below hS hqlt; have s1 := HC.out _ hS; clear hS; unfold Oper.wp; go_simp; first | done | exact Below.refl _ _)
                  · (with_reducible refine FixB.of ?_ ?_; rfl; intro w' hS; have s0 := H6m.out.below hS hqlt; have s1 := HC.out _ hS; clear hS; unfold Oper.wp; go_simp; first | done | exact Below.refl _ _)
                  · (with_reducible refine FixB.of ?_ ?_; rfl; intro w' hS; have s0 := H6m.out.below hS hqlt; have s1 := HC.out _ hS; clear hS; unfold Oper.wp; go_simp; first | done | exact Below.refl _ _)
                  · (with_reducible refine FixB.of ?_ ?_; rfl; intro w' hS; have s0 := H6m.out.below hS hqlt; have s1 := HC.out _ hS; clear hS; unfold Oper.wp; go_simp; first | done | exact Below.refl _ _)
                case hQ =>
                  intro wc hS _
                  have HNc := Lib.hid (HNb.out.below hS (Nat.le_refl _))
                  have HMc : Hid (Six wc q m) := H6m.out.below hS hqlt
                  have hszc := hS.size
                  clear hS HNb H6m HC
                  go_wp2
                  go_roundw
                  case rel => exact ⟨j + 1, ps, vs, pl, by go_num, by omega, hlt, Hfu.out, HNc.out, Hgd.out, HA4⟩
                  case measure => simp [intOf]; omega
              · have hx0 : x = 0 := by rw [hpl, plOf_out hin]
                have Hin := Lib.hid hin
                clear hpl hin
                go_wp2_with fail
                refine wp_region_same [] rfl (by kernel_rfl) (by kernel_rfl) (by kernel_rfl) (fun w' => Below wb.heap.size wb w') _
                  [.pointer (some ⟨w.heap.size, 0, none⟩), .agg (mc m), I (num m), .pointer (some ⟨w.heap.size, 0, none⟩), .pointer (some ⟨w.heap.size, 2, none⟩), .pointer (some ⟨w.heap.size, 2 + (num m).toNat, none⟩), I x, .bool false]
                  (by simp only [putAll, List.setIfInBounds_toArray, List.set_cons_succ, List.set_cons_zero]; rfl) (Below.refl _ _).drew ?hop ?hQ
                case hop =>
                  refine FixBL.toL (fun w' w'' hS hb => hS.trans (hb.mono hS.size)) _ _ ?_
                  refine ⟨.inr ?_, .inr ?_, .inr ?_, .inr ?_, .inr ?_, .inr ?_, .inr ?_, .inr ?_, trivial⟩
                  · (with_reducible refine FixB.of ?_ ?_; rfl; intro w' hS; have s0 := H6m.out.below hS hqlt; have s1 := HC.out _ hS; clear hS; unfold Oper.wp; go_simp; first | done | exact Below.refl _ _)
                  · (with_reducible refine FixB.of ?_ ?_; rfl; intro w' hS; have s0 := H6m.out.below hS hqlt; have s1 := HC.out _ hS; clear hS; unfold Oper.wp; go_simp; first | done | exact Below.refl _ _)
                  · (with_reducible refine FixB.of ?_ ?_; rfl; intro w' hS; have s3 := Lib.hid hS; unfold Oper.wp; clear hS; go_simp; refine (number_any m _ hvm).mono ?_; rintro e w1 ⟨rfl, hb⟩; exact ⟨rfl, hb⟩)
                  · (with_reducible refine FixB.of ?_ ?_; rfl; intro w' hS; have s0 := H6m.out.below hS hqlt; have s1 := HC.out _ hS; clear hS; unfold Oper.wp; go_simp; first | done | exact Below.refl _ _)
                  · (with_reducible refine FixB.of ?_ ?_; rfl; intro w' hS; have s0 := H6m.out.below hS hqlt; have s1 := HC.out _ hS; clear hS; unfold Oper.wp; go_simp; first | done | exact Below.refl _ _)
                  · (with_reducible refine FixB.of ?_ ?_; rfl; intro w' hS; have s0 := H6m.out.below hS hqlt; have s1 := HC.out _ hS; clear hS; unfold Oper.wp; go_simp; first | done | exact Below.refl _ _)
                  · (with_reducible refine FixB.of ?_ ?_; rfl; intro w' hS; have s0 := H6m.out.below hS hqlt; have s1 := HC.out _ hS; clear hS; unfold Oper.wp; go_simp; first | done | exact Below.refl _ _)
                  · (with_reducible refine FixB.of ?_ ?_; rfl; intro w' hS; have s0 := H6m.out.below hS hqlt; have s1 := HC.out _ hS; clear hS; unfold Oper.wp; go_simp; first | done | exact Below.refl _ _)
                case hQ =>
                  intro wc hS _
                  have HNc := Lib.hid (HNb.out.below hS (Nat.le_refl _))
                  have HMc : Hid (Six wc q m) := H6m.out.below hS hqlt
                  have hszc := hS.size
                  clear hS HNb H6m HC
                  by_cases h300 : ps.length = 300
                  · have Hcl : Hid (cloC gens n = 3) := by
                      have := HA.out
                      rw [Hgj.out, rowC_full (by rw [← Hm.out]; exact Hin.out) h300] at this
                      show _ = _
                      rw [cloC, ← this]; rfl
                    have Hcn : Hid (clo gens n = none) := by
                      have := HA.out
                      rw [Hgj.out, rowC_full (by rw [← Hm.out]; exact Hin.out) h300] at this
                      exact this.symm
                    go_wp2_with fail
                    go_ret2
                    exact ⟨_, by rw [Hcl.out] <;> rfl, HNc.out.bel, fun _ => rfl, fun ps h => by rw [Hcn.out] at h; cases h⟩
                  · obtain ⟨wd, hwd⟩ : ∃ wd, wd = wc.drew := ⟨_, rfl⟩
                    have HNd := Lib.hid HNc.out.drew
                    rw [← hwd] at HNd
                    have HMd : Hid (Six wd q m) := by show Six _ _ _; rw [hwd]; exact HMc.out
                    have hqd : q < wd.heap.size := HMd.out.lt
                    have Hwd := Lib.hid hwd
                    clear HNc HMc hwd
                    have hkv : k < vs.length := by rw [HNd.out.len]; exact hlt
                    have Hul : Hid (u.length < 1073741824) := by
                      have := Hgd.out.wl k hlt
                      rw [Hfu.out] at this
                      show _ < _
                      simp only at this
                      omega
                    go_wp2_with fail
                    refine wp_region_flags [] rfl (by kernel_rfl) (by kernel_rfl) [7, 8] (by kernel_rfl) _
                      (fun c : G15 => [.slice (some ⟨gF, 0, none⟩) ps.length cF, .agg (mc m), .slice (some ⟨c.q2, 0, none⟩) 1 1, c.v3, .slice (some ⟨gW, 0, none⟩) ps.length cW, .slice (some ⟨gW, 0, none⟩) ps.length cW, I k, .pointer (some ⟨gW, k, none⟩), gv vs k, c.v9, I j, .slice (some ⟨c.q11, 0, none⟩) 1 1, c.v12, .slice (some ⟨c.q13, 0, none⟩) 1 1, c.v14, c.v3, c.v14])
                      (by intro c; simp only [putAll, List.setIfInBounds_toArray, List.set_cons_succ, List.set_cons_zero]; rfl)
                      [(7, .slice (some ⟨gF, 0, none⟩) ps.length cF), (8, .slice (some ⟨gW, 0, none⟩) ps.length cW)] rfl _
                      (by intro c; simp only [setAll, List.setIfInBounds_toArray, List.set_cons_succ, List.set_cons_zero]; rfl) (by kernel_rfl)
                      (fun d c w' => S15 w wd ps vs pl (.slice (some ⟨gF, 0, none⟩) ps.length cF) (.slice (some ⟨gW, 0, none⟩) ps.length cW) m u j q (d 2) (d 3) (d 9) (d 11) (d 12) (d 13) (d 14) c w')
                      ⟨0, undef, undef, 0, undef, 0, undef⟩ (by rw [← Hwd.out]; exact S15.start HNd.out HMd.out _) ?hop ?hQ
                    case hop =>
                      refine ⟨?_, ?_, ?_, ?_, ?_, ?_, ?_, ?_, ?_, ?_, ?_, ?_, ?_, ?_, ?_, ?_, ?_, trivial⟩
                      · refine ⟨rfl, Flag.pure (fun _ _ _ h => h) fun d c w' hd hdeps hcl hS => ?_⟩
                        skip
                        clear hS hdeps hcl hd
                        unfold Oper.wp
                        go_simp
                        exact ⟨rfl, fun t ht => by injection ht with ht; subst ht; rfl, rfl⟩
                      · refine ⟨rfl, Flag.pure (fun _ _ _ h => h) fun d c w' hd hdeps hcl hS => ?_⟩
                        have s0 := hS.box
                        clear hS hdeps hcl hd
                        unfold Oper.wp
                        go_simp
                        exact ⟨rfl, fun t ht => by injection ht with ht; subst ht; rfl, rfl⟩
                      · refine ⟨rfl, fun d c w' hd hdeps hcl hS => ?_⟩
                        have d3 := hcl.down (k := 3) (j := 2) rfl (by kernel_rfl) hd
                        simp only [d3] at hS
                        have hS2 := Lib.hid hS.do2
                        clear hS hdeps hcl
                        unfold Oper.wp
                        go_simp
                        refine FlagPost.own ({ c with q2 := w'.heap.size } : G15) 63 (.slice (some ⟨w'.heap.size, 0, none⟩) 1 1) rfl rfl rfl ?_ rfl
                        show S15 _ _ _ _ _ _ _ _ _ _ _ true (d 3) (d 9) (d 11) (d 12) (d 13) (d 14) _ _
                        rw [d3]
                        exact hS2.out
                      · refine ⟨rfl, fun d c w' hd hdeps hcl hS => ?_⟩
                        have d2 := hdeps 2 (by kernel_rfl)
                        have d9 := hcl.down (k := 9) (j := 3) rfl (by kernel_rfl) hd
                        have d12 := hcl.down (k := 12) (j := 9) rfl (by kernel_rfl) d9
                        have d13 := hcl.down (k := 13) (j := 12) rfl (by kernel_rfl) d12
                        have d14 := hcl.down (k := 14) (j := 13) rfl (by kernel_rfl) d13
                        have d15 := hcl.down (k := 15) (j := 14) rfl (by kernel_rfl) d14
                        simp only [d2, hd, d9, d12, d13, d14] at hS
                        obtain ⟨c6, _⟩ := hS.s2 rfl rfl
                        have hl : (ps.map (·.1)).length = ps.length := by simp
                        refine wp_pushM (.tmp 61) (.tmp 63) rfl (w.heap.size + 1) (.slice (some ⟨gF, 0, none⟩) ps.length cF) (ps.map (·.1)) rfl (hS.f0 rfl) c.q2 1 m rfl c6 (by rw [hl]; omega) (by have := hS.bel.size; have := hS.mono.lt; omega) ?_
                        intro g' cap w2 hown hgr hor _
                        rw [hl] at hown ⊢
                        refine FlagPost.two ({ c with v3 := .slice (some ⟨g', 0, none⟩) (ps.length + 1) cap } : G15) 64 (.slice (some ⟨g', 0, none⟩) (ps.length + 1) cap) 15 _ 7 rfl rfl rfl ?_ rfl rfl rfl (by decide) d15
                        show S15 _ _ _ _ _ _ _ _ _ _ _ (d 2) true (d 9) (d 11) (d 12) (d 13) (d 14) _ _
                        rw [d2, d9, d12, d13, d14]
                        exact hS.do3 HNd.out HqF.out hown hgr hor
                      · refine ⟨rfl, Flag.pure (fun _ _ _ h => h) fun d c w' hd hdeps hcl hS => ?_⟩
                        skip
                        clear hS hdeps hcl hd
                        unfold Oper.wp
                        go_simp
                        exact ⟨rfl, fun t ht => by injection ht with ht; subst ht; rfl, rfl⟩
                      · refine ⟨rfl, Flag.pure (fun _ _ _ h => h) fun d c w' hd hdeps hcl hS => ?_⟩
                        skip
                        clear hS hdeps hcl hd
                        unfold Oper.wp
                        go_simp
                        exact ⟨rfl, fun t ht => by injection ht with ht; subst ht; rfl, rfl⟩
                      · refine ⟨rfl, Flag.pure (fun _ _ _ h => h) fun d c w' hd hdeps hcl hS => ?_⟩
                        skip
                        clear hS hdeps hcl hd
                        unfold Oper.wp
                        go_simp
                        exact ⟨rfl, fun t ht => by injection ht with ht; subst ht; rfl, rfl⟩
                      · refine ⟨rfl, Flag.pure (fun _ _ _ h => h) fun d c w' hd hdeps hcl hS => ?_⟩
                        skip
                        clear hS hdeps hcl hd
                        unfold Oper.wp
                        go_simp
                        exact ⟨rfl, fun t ht => by injection ht with ht; subst ht; rfl, rfl⟩
                      · refine ⟨rfl, Flag.pure (fun _ _ _ h => h) fun d c w' hd hdeps hcl hS => ?_⟩
                        have d9 := hcl.down (k := 9) (j := 8) rfl (by kernel_rfl) hd
                        have d12 := hcl.down (k := 12) (j := 9) rfl (by kernel_rfl) d9
                        have d13 := hcl.down (k := 13) (j := 12) rfl (by kernel_rfl) d12
                        have d14 := hcl.down (k := 14) (j := 13) rfl (by kernel_rfl) d13
                        have s0 := (hS.e0 d14).rd.at_ (k := k) hkv
                        obtain ⟨b', off', e, _, s0⟩ := s0
                        injection e with e
                        injection e with e1 e2 _
                        subst e1 e2
                        rw [Nat.zero_add] at s0
                        clear hS hdeps hcl hd d9 d12 d13 d14
                        unfold Oper.wp
                        go_simp
                        exact ⟨rfl, fun t ht => by injection ht with ht; subst ht; rfl, rfl⟩
                      · refine ⟨rfl, fun d c w' hd hdeps hcl hS => ?_⟩
                        have d3 := hdeps 3 (by kernel_rfl)
                        have d12 := hcl.down (k := 12) (j := 9) rfl (by kernel_rfl) hd
                        have d13 := hcl.down (k := 13) (j := 12) rfl (by kernel_rfl) d12
                        have d14 := hcl.down (k := 14) (j := 13) rfl (by kernel_rfl) d13
                        simp only [d3, hd, d12, d13, d14] at hS
                        have hwk := hS.ws k hlt
                        rw [Hfu.out] at hwk
                        have hS2 := Lib.hid hS
                        clear hS hdeps hcl
                        unfold Oper.wp
                        go_simp
                        refine (cloneI_any _ _ u _ hwk (fun e => HNd.out.nil_ k hlt (by rw [Hfu.out]; exact e)) Hul.out).mono ?_
                        rintro e w2 ⟨v', rfl, ho, hb⟩
                        refine FlagPost.own ({ c with v9 := v' } : G15) 70 v' rfl rfl rfl ?_ rfl
                        show S15 _ _ _ _ _ _ _ _ _ _ _ (d 2) (d 3) true (d 11) (d 12) (d 13) (d 14) _ _
                        rw [d3, d12, d13, d14]
                        exact hS2.out.do9 hb ho
                      · refine ⟨rfl, Flag.pure (fun _ _ _ h => h) fun d c w' hd hdeps hcl hS => ?_⟩
                        skip
                        clear hS hdeps hcl hd
                        unfold Oper.wp
                        go_simp
                        exact ⟨rfl, fun t ht => by injection ht with ht; subst ht; rfl, rfl⟩
                      · refine ⟨rfl, fun d c w' hd hdeps hcl hS => ?_⟩
                        have hS2 := Lib.hid hS.do11
                        clear hS hdeps hcl
                        unfold Oper.wp
                        go_simp
                        refine FlagPost.own ({ c with q11 := w'.heap.size } : G15) 72 (.slice (some ⟨w'.heap.size, 0, none⟩) 1 1) rfl rfl rfl ?_ rfl
                        exact hS2.out
                      · refine ⟨rfl, fun d c w' hd hdeps hcl hS => ?_⟩
                        have d9 := hdeps 9 (by kernel_rfl)
                        have d11 := hdeps 11 (by kernel_rfl)
                        have d3 := hcl.up (k := 9) (j := 3) rfl (by kernel_rfl) d9
                        have d13 := hcl.down (k := 13) (j := 12) rfl (by kernel_rfl) hd
                        have d14 := hcl.down (k := 14) (j := 13) rfl (by kernel_rfl) d13
                        simp only [d3, d9, d11, hd, d13, d14] at hS
                        obtain ⟨c11, _, _⟩ := hS.s11 rfl rfl
                        refine wp_pushI (.tmp 70) (.tmp 72) rfl wd.heap.size c.v9 u rfl (hS.s9 rfl rfl).1 c.q11 1 j rfl c11 Hul.out hS.size ?_
                        intro g' cap w2 hown hgr hor _
                        refine FlagPost.own ({ c with v12 := .slice (some ⟨g', 0, none⟩) (u.length + 1) cap } : G15) 73 (.slice (some ⟨g', 0, none⟩) (u.length + 1) cap) rfl rfl rfl ?_ rfl
                        show S15 _ _ _ _ _ _ _ _ _ _ _ (d 2) (d 3) (d 9) (d 11) true (d 13) (d 14) _ _
                        rw [d3, d9, d11, d13, d14]
                        exact hS.do12 HNd.out hqd hown hgr hor
                      · refine ⟨rfl, fun d c w' hd hdeps hcl hS => ?_⟩
                        have d12 := hdeps 12 (by kernel_rfl)
                        have d14 := hcl.down (k := 14) (j := 13) rfl (by kernel_rfl) hd
                        simp only [d12, hd, d14] at hS
                        have hS2 := Lib.hid hS.do13
                        obtain ⟨A', c', he, _⟩ := (hS.s12 rfl).1.form
                        have hwe : Hid (w'.alloc (.cells #[c.v12] 39) = w'.alloc (.cells #[.slice A' (u ++ [(j : Int)]).length c'] 39)) := by show _ = _; rw [he]
                        clear hS hdeps hcl
                        unfold Oper.wp
                        go_simp
                        refine FlagPost.own ({ c with q13 := w'.heap.size } : G15) 74 (.slice (some ⟨w'.heap.size, 0, none⟩) 1 1) rfl rfl rfl ?_ rfl
                        show S15 _ _ _ _ _ _ _ _ _ _ _ (d 2) (d 3) (d 9) (d 11) (d 12) true (d 14) _ _
                        rw [d12, d14]
                        have hS3 := hS2.out
                        rw [hwe.out] at hS3
                        first | exact hS3 | (simp only [List.length_append, List.length_cons, List.length_nil] at hS3 ⊢; exact hS3)
                      · refine ⟨rfl, fun d c w' hd hdeps hcl hS => ?_⟩
                        have d13 := hdeps 13 (by kernel_rfl)
                        have d12 := hcl.up (k := 13) (j := 12) rfl (by kernel_rfl) d13
                        have d9 := hcl.up (k := 12) (j := 9) rfl (by kernel_rfl) d12
                        have d3 := hcl.up (k := 9) (j := 3) rfl (by kernel_rfl) d9
                        have d16 := hcl.down (k := 16) (j := 14) rfl (by kernel_rfl) hd
                        simp only [d3, d12, d13, hd] at hS
                        obtain ⟨c13, _⟩ := hS.s13 rfl rfl
                        have hu1 : c.v12.oneCell' = true := by
                          obtain ⟨A', c', e, _⟩ := (hS.s12 rfl).1.form
                          rw [e]; rfl
                        refine wp_pushV (.tmp 65) (.tmp 74) rfl (w.heap.size + 1) (.slice (some ⟨gW, 0, none⟩) ps.length cW) vs rfl (hS.e0 rfl) c.q13 1 c.v12 hu1 rfl c13 (by rw [HNd.out.len]; omega) (by have := hS.bel.size; have := hS.mono.lt; omega) ?_
                        intro g' cap w2 hown hgr hor _
                        refine FlagPost.two ({ c with v14 := .slice (some ⟨g', 0, none⟩) (vs.length + 1) cap } : G15) 75 (.slice (some ⟨g', 0, none⟩) (vs.length + 1) cap) 16 _ 8 rfl rfl rfl ?_ rfl rfl rfl (by decide) d16
                        show S15 _ _ _ _ _ _ _ _ _ _ _ (d 2) (d 3) (d 9) (d 11) (d 12) (d 13) true _ _
                        rw [d3, d12, d13]
                        exact hS.do14 HNd.out HqW.out hown hgr hor
                      · refine ⟨rfl, Flag.pure (fun _ _ _ h => h) fun d c w' hd hdeps hcl hS => ?_⟩
                        skip
                        clear hS hdeps hcl hd
                        unfold Oper.wp
                        go_simp
                        exact ⟨rfl, fun t ht => by injection ht with ht; subst ht; rfl, rfl⟩
                      · refine ⟨rfl, Flag.pure (fun _ _ _ h => h) fun d c w' hd hdeps hcl hS => ?_⟩
                        skip
                        clear hS hdeps hcl hd
                        unfold Oper.wp
                        go_simp
                        exact ⟨rfl, fun t ht => by injection ht with ht; subst ht; rfl, rfl⟩
                    case hQ =>
                      intro d c we hall hS
                      have hS : S15 w wd ps vs pl (.slice (some ⟨gF, 0, none⟩) ps.length cF) (.slice (some ⟨gW, 0, none⟩) ps.length cW) m u j q (d 2) (d 3) (d 9) (d 11) (d 12) (d 13) (d 14) c we := hS
                      rw [hall 2 (by decide), hall 3 (by decide), hall 9 (by decide), hall 11 (by decide), hall 12 (by decide), hall 13 (by decide), hall 14 (by decide)] at hS
                      clear hall
                      obtain ⟨q2, v3, v9, q11, v12, q13, v14⟩ := c
                      obtain ⟨g3, c3, e3⟩ := (hS.s3 rfl).1.some_ (by simp)
                      have hl3 : (ps.map (·.1) ++ [m]).length = ps.length + 1 := by simp
                      rw [hl3] at e3
                      simp only at e3
                      subst e3
                      have HSe := Lib.hid hS
                      have hszw := hS.bel.size
                      have hgMe := hS.mono.lt
                      clear hS hl3
                      go_wp2_with fail
                      refine wp_region_last [] rfl (by kernel_rfl) (by kernel_rfl) (by kernel_rfl) (by kernel_rfl) (fun w' => Below we.heap.size we w')
                        (fun w' => ∃ w3, Below we.heap.size we w3 ∧ w' = w3.setCell ⟨w.heap.size, 2 + (num m).toNat, none⟩ (I ((ps.length : Int) + 1))) _
                        [.pointer (some ⟨w.heap.size, 0, none⟩), .agg (mc m), I (num m), .slice (some ⟨g3, 0, none⟩) (ps.length + 1) c3, I ((ps.length : Int) + 1), .pointer (some ⟨w.heap.size, 0, none⟩), .pointer (some ⟨w.heap.size, 2, none⟩), .pointer (some ⟨w.heap.size, 2 + (num m).toNat, none⟩), undef]
                        (by simp only [putAll, List.setIfInBounds_toArray, List.set_cons_succ, List.set_cons_zero]; rfl) (Below.refl _ _).drew 8 _ rfl rfl ?hop ?hst ?hQ
                      case hop =>
                        refine FixBL.toL (fun w' w'' hS hb => hS.trans (hb.mono hS.size)) _ _ ?_
                        refine ⟨.inr ?_, .inr ?_, .inr ?_, .inr ?_, .inr ?_, .inr ?_, .inr ?_, .inr ?_, .inl rfl, trivial⟩
                        · (with_reducible refine FixB.of ?_ ?_; rfl; intro w' hS; have s0 := HSe.out.box.below hS HSe.out.box.lt; clear hS; unfold Oper.wp; go_simp; first | done | exact Below.refl _ _)
                        · (with_reducible refine FixB.of ?_ ?_; rfl; intro w' hS; have s0 := HSe.out.box.below hS HSe.out.box.lt; clear hS; unfold Oper.wp; go_simp; first | done | exact Below.refl _ _)
                        · (with_reducible refine FixB.of ?_ ?_; rfl; intro w' hS; have s3 := Lib.hid hS; unfold Oper.wp; clear hS; go_simp; refine (number_any m _ hvm).mono ?_; rintro e w1 ⟨rfl, hb⟩; exact ⟨rfl, hb⟩)
                        · (with_reducible refine FixB.of ?_ ?_; rfl; intro w' hS; have s0 := HSe.out.box.below hS HSe.out.box.lt; clear hS; unfold Oper.wp; go_simp; first | done | exact Below.refl _ _)
                        · (with_reducible refine FixB.of ?_ ?_; rfl; intro w' hS; have s0 := HSe.out.box.below hS HSe.out.box.lt; clear hS; unfold Oper.wp; go_simp; first | done | exact Below.refl _ _)
                        · (with_reducible refine FixB.of ?_ ?_; rfl; intro w' hS; have s0 := HSe.out.box.below hS HSe.out.box.lt; clear hS; unfold Oper.wp; go_simp; first | done | exact Below.refl _ _)
                        · (with_reducible refine FixB.of ?_ ?_; rfl; intro w' hS; have s0 := HSe.out.box.below hS HSe.out.box.lt; clear hS; unfold Oper.wp; go_simp; first | done | exact Below.refl _ _)
                        · (with_reducible refine FixB.of ?_ ?_; rfl; intro w' hS; have s0 := HSe.out.box.below hS HSe.out.box.lt; clear hS; unfold Oper.wp; go_simp; first | done | exact Below.refl _ _)
                      case hst =>
                        refine ⟨rfl, fun w' hS => ?_⟩
                        have hMM := HSe.out.mono.below hS hgMe
                        have c0 := hMM.cp (j := (num m).toNat) (by omega)
                        have z0 := hMM.fr (2 + (num m).toNat)
                        have Hs := Lib.hid hS
                        clear hS hMM
                        unfold Oper.wp
                        go_simp
                        exact ⟨w', Hs.out, rfl⟩
                      case hQ =>
                        rintro w' ⟨w3, hS, rfl⟩
                        have HN2 := Lib.hid ((HSe.out.below hS).fin HNd.out hvm (by rw [Hm.out]; exact Hpm.out) Hin.out)
                        have Hgd2 := Lib.hid (Hgd.out.add (f := f) (u := u) (k := j) Hmf.out (by rw [Hl.out]; exact hjl) (by rw [← Hg.out, ← Hm.out]; exact Hin.out) h300)
                        rw [← Hg.out, ← Hm.out] at Hgd2
                        have HA5 : Hid ((rowC f u (gens.drop (j + 1)) (j + 1) (ps ++ [(m, u ++ [(j : Int)])])).bind (allC gens (299 - k) (k + 1)) = clo gens n) := by
                          have := HA.out
                          rw [Hgj.out, rowC_new (by rw [← Hm.out]; exact Hin.out) h300, ← Hm.out] at this
                          exact this
                        have Hfu2 : Hid (pm (ps ++ [(m, u ++ [(j : Int)])]) k = (f, u)) := by show _ = _; rw [pm_app hlt]; exact Hfu.out
                        clear hS HSe HNd HMd Hgd HA Hmf Hfu
                        go_wp2_with fail
                        go_roundw
                        case rel => exact ⟨j + 1, ps ++ [(m, u ++ [(j : Int)])], _, _, by go_num, by omega, by simp; omega, Hfu2.out, HN2.out, Hgd2.out, HA5⟩
                        case measure => simp [intOf]; omega
          · obtain rfl : j = L := by omega
            have HA3 : Hid (allC gens (300 - (k + 1)) (k + 1) ps = clo gens n) := by
              have := HA.out
              rw [List.drop_eq_nil_of_le (by rw [Hl.out]; exact Nat.le_refl _), rowC_nil] at this
              rw [show 300 - (k + 1) = 299 - k by omega]
              exact this
            go_wp2_with fail
            go_roundw
            case rel => exact ⟨k + 1, ps, vs, pl, by go_num, by omega, HN.out, Hgd.out, HA3⟩
            case measure => simp [intOf]; omega
      · have Hcl : Hid (clo gens n = some ps) := by
          have := HA.out
          rw [allC_done hlt] at this
          exact this.symm
        obtain ⟨gW, cW, hvW⟩ := HN.out.wd.some_ (by rw [HN.out.len]; obtain ⟨qs, e, _⟩ := Hgd.out.fst; rw [e]; simp)
        rw [HN.out.len] at hvW
        subst hvW
        have hpos : 0 < ps.length := by obtain ⟨qs, e, _⟩ := Hgd.out.fst; rw [e]; simp
        have Hc0 : Hid (cloC gens n = 0) := by show _ = _; rw [cloC, Hcl.out]; rfl
        clear HA
        go_wp2_with fail
        refine (cloneM_any gF ps.length cF (w.heap.size + 1) (ps.map (·.1)) _ HN.out.f (by simp) hpos (by omega)).mono ?_
        rintro e wc ⟨gE, cE, rfl, hoE, hbb⟩
        have HNc := Lib.hid (HN.out.below hbb (Nat.le_refl _))
        have hgEl := hoE.lt gE rfl
        have hgMl := HN.out.mono.lt
        have HE : Hid (OwM 31 (wc.setCell ⟨w.heap.size, 0, none⟩ (.slice (some ⟨gE, 0, none⟩) ps.length cE)) (w.heap.size + 1) (.slice (some ⟨gE, 0, none⟩) ps.length cE) (ps.map (·.1))) :=
          (hoE.mono (by omega)).keep fun g hg => Below.heap_setCell wc _ _ g (by have := own_eq hg; show g ≠ w.heap.size; omega)
        have c0 := HNc.out.mono.c0
        have z0 := HNc.out.mono.fr 0
        have HM := Lib.hid (HNc.out.mono.set0 (.slice (some ⟨gE, 0, none⟩) ps.length cE))
        have HWF : Hid (wc.grownBy (wc.setCell ⟨w.heap.size, 0, none⟩ (.slice (some ⟨gE, 0, none⟩) ps.length cE)) (some w.heap.size)) := grownBy_set' (World.grownBy.refl wc _)
        have hgEs : gE < wc.heap.size := hgEl.2
        have hgEF : ∀ g, (Value.slice (some ⟨gE, 0, none⟩) ps.length cE).ownBlock = some g → wr.heap.size ≤ g := fun g hg => (hoE.lt g hg).1
        have HgEF := Lib.hid hgEF
        have hszc := hbb.size
        have hgWl : ∀ g, (Value.slice (some ⟨gW, 0, none⟩) ps.length cW).ownBlock = some g → g < wr.heap.size := fun g hg => (HN.out.wd.lt g hg).2
        have hWs : ∀ j, j < ps.length → ∀ g, (gv vs j).ownBlock = some g → g < wr.heap.size := fun j hj g hg => ((HN.out.ws j hj).lt g hg).2
        clear hbb hoE HN hgEF
        go_wp2_with fail
        refine (sort_any gE ps.length cE (w.heap.size + 1) (ps.map (·.1)) _ HE.out (by simp) Hgd.out.nd (by omega)).mono ?_
        rintro e ws ⟨rfl, hoS, hgr⟩
        obtain ⟨E, hE⟩ : ∃ E, E = sortM (ps.map (·.1)) := ⟨_, rfl⟩
        rw [← hE] at hoS
        have hEl : E.length = ps.length := by rw [hE, sortM_length Hgd.out.nd, List.length_map]
        have HEE := Lib.hid hE
        have HK := Lib.hid (HNc.out.kept (fun g hg e => by have := hgWl g hg; omega) (fun j hj g hg e => by have := hWs j hj g hg; omega) (by omega) hgr hoS)
        have HMs := Lib.hid (HM.out.grown hgr (by intro e; injection e with e; omega))
        have hszs := hgr.size
        have HPl := Lib.hid HNc.out.plc
        have HKe := Lib.hid HK.out.e
        have HNl := Lib.hid HNc.out.len
        clear hgr hoS HNc HE HM HWF HgEF c0 z0 hE hWs hgWl
        have HMon : Hid (∀ f ∈ E, Valid f ∧ f.p = n) := fun f hf => by
          rw [HEE.out, sortM_mem, clo_mem Hcl.out] at hf
          exact hf.ok h1 h5 HG.out
        have HEF : Hid (∀ f, f ∈ E ↔ f ∈ ps.map (·.1)) := fun f => by rw [HEE.out, sortM_mem]
        have HEn : Hid E.Nodup := by show E.Nodup; rw [HEE.out]; exact (sortM_asc _).nodup
        have c0 := HMs.out.c0
        go_wp2_with fail
        obtain ⟨wf, hwf⟩ : ∃ wf : Nat → Value, wf = fun r => gv vs (ix (ps.map (·.1)) (gm E r)) := ⟨_, rfl⟩
        have Hwf := Lib.hid hwf
        clear hwf c0
        have hGV : Hid (∀ j, j < ps.length → (gv vs j).oneCell' = true) := fun j hj => by obtain ⟨A', c', e, _⟩ := (HK.out.ws j hj).form; rw [e]; rfl
        go_loopw [100] (fun i wr => ∃ (r : Nat) (wk : Value), i = .int .i64 r ∧ r ≤ ps.length ∧ ws.grownBy wr (some w.heap.size) ∧ Mono wr w.heap.size (.slice (some ⟨gE, 0, none⟩) ps.length cE) wk pl ∧ OwV 39 wr ws.heap.size wk ((List.range r).map wf)) (fun i _ => ps.length - (intOf i).toNat)
        case atStart => exact ⟨0, _, rfl, by omega, World.grownBy.refl ws _, HMs.out, OwV.nil_⟩
        case round =>
          clear HMs
          obtain ⟨r, wk, rfl, hr, hG, hM, hO⟩ := hrel
          have hg0 : w.heap.size < ws.heap.size := HK.out.lt
          by_cases hrl : r < ps.length
          · have HK1 := Lib.hid (HK.out.grown hG)
            obtain ⟨f, hf⟩ : ∃ f, f = gm E r := ⟨_, rfl⟩
            have hfE : f ∈ E := by rw [hf]; exact gm_mem (by omega)
            have hvf := (HMon.out f hfE).1
            have hpf := (HMon.out f hfE).2
            have hfF := (HEF.out f).1 hfE
            have hpl := HPl.out f hvf hpf
            rw [plOf_in hfF] at hpl
            obtain ⟨p, hp⟩ : ∃ p, p = ix (ps.map (·.1)) f := ⟨_, rfl⟩
            have hpn : p < ps.length := by have := ix_lt hfF; rw [hp]; simpa using this
            have hpv : p < vs.length := by rw [HNl.out]; exact hpn
            have hwr : wf r = gv vs p := by rw [Hwf.out, hp, hf]
            obtain ⟨A', N', c', hgv⟩ : ∃ A N c, gv vs p = .slice A N c := by obtain ⟨A', c', e, _⟩ := (HK1.out.ws p hpn).form; exact ⟨_, _, _, e⟩
            have Hgv := Lib.hid hgv
            rw [hgv] at hwr
            clear hgv
            rw [← hp] at hpl
            have nb0 := (num_bd hvf).1
            have nb1 := (num_bd hvf).2
            have s0 : SixAt wr gE (r * 6) f := by
              have h6 := RdM.at_ HK1.out.e.rd (k := r) (by omega)
              obtain ⟨b', off', e, _, h6⟩ := h6
              injection e with e
              injection e with e1 e2 _
              subst e1 e2
              rw [Nat.zero_add, ← hf] at h6
              exact h6
            have hrE : (r : Int) < (ps.length : Int) := by omega
            have HG1 := Lib.hid hG
            have HM1 := Lib.hid hM
            have HO1 := Lib.hid hO
            have Hpl := Lib.hid hpl
            have Hwr := Lib.hid hwr
            clear hf hfE hpf hfF hp hG hM hO hpl hwr
            go_wp2_with fail
            obtain ⟨wb, hwb⟩ : ∃ wb, wb = wr.alloc (.cells (mc f) 31) := ⟨_, rfl⟩
            have hszb : wb.heap.size = wr.heap.size + 1 := by rw [hwb]; simp
            have hbb : Below wr.heap.size wr wb := by rw [hwb]; exact (Below.refl _ _).alloc (Nat.le_refl _) _
            have HS0 : Hid (S23 ws w.heap.size (.slice (some ⟨gE, 0, none⟩) ps.length cE) wk pl ((List.range r).map wf) (.slice A' N' c') wr.heap.size f false false false ⟨0, undef⟩ wb) := by
              refine ⟨grownBy_below HG1.out hbb, fun _ => by rw [hwb]; exact Blk.six (Blk.new wr _ _), fun _ => HM1.out.below hbb HM1.out.lt, fun e => (by cases e), fun _ => HO1.out.below hbb (Nat.le_refl _), fun e => (by cases e), fun e => (by cases e)⟩
            rw [← hwb]
            clear hwb hbb s0 HG1 HM1 HO1 HK1
            have hw1 : IntKind.i64.wrap (p : Int) = p := IntWalk.i64_in _ ⟨by omega, by omega⟩
            refine wp_region_flags [] rfl (by kernel_rfl) (by kernel_rfl) [] (by kernel_rfl) _
              (fun c : G23 => [.pointer (some ⟨w.heap.size, 0, none⟩), .pointer (some ⟨w.heap.size, 0, none⟩), .pointer (some ⟨w.heap.size, 0, none⟩), .pointer (some ⟨w.heap.size, 1, none⟩), wk, .slice (some ⟨gW, 0, none⟩) ps.length cW, .pointer (some ⟨w.heap.size, 0, none⟩), .agg (mc f), I (num f), .pointer (some ⟨w.heap.size, 0, none⟩), .pointer (some ⟨w.heap.size, 2, none⟩), .pointer (some ⟨w.heap.size, 2 + (num f).toNat, none⟩), I ((p : Int) + 1), I p, .pointer (some ⟨gW, p, none⟩), .slice A' N' c', .slice (some ⟨c.q16, 0, none⟩) 1 1, c.v17, .pointer (some ⟨w.heap.size, 0, none⟩), .pointer (some ⟨w.heap.size, 1, none⟩), undef])
              (by intro c; simp only [putAll, List.setIfInBounds_toArray, List.set_cons_succ, List.set_cons_zero]; rfl)
              [] rfl _
              (by intro c; simp only [setAll, List.setIfInBounds_toArray, List.set_cons_succ, List.set_cons_zero]; rfl) (by kernel_rfl)
              (fun d c w' => S23 ws w.heap.size (.slice (some ⟨gE, 0, none⟩) ps.length cE) wk pl ((List.range r).map wf) (.slice A' N' c') wr.heap.size f (d 16) (d 17) (d 20) c w')
              ⟨0, undef⟩ (HS0.out.below (Below.refl _ _).drew) ?hop ?hQ
            case hop =>
              refine ⟨?_, ?_, ?_, ?_, ?_, ?_, ?_, ?_, ?_, ?_, ?_, ?_, ?_, ?_, ?_, ?_, ?_, ?_, ?_, ?_, ?_, trivial⟩
              · refine ⟨rfl, Flag.pure (fun _ _ _ h => h) fun d c w' hd hdeps hcl hS => ?_⟩
                skip
                clear hS hdeps hcl hd
                unfold Oper.wp
                go_simp
                exact ⟨rfl, fun t ht => by injection ht with ht; subst ht; rfl, rfl⟩
              · refine ⟨rfl, Flag.pure (fun _ _ _ h => h) fun d c w' hd hdeps hcl hS => ?_⟩
                skip
                clear hS hdeps hcl hd
                unfold Oper.wp
                go_simp
                exact ⟨rfl, fun t ht => by injection ht with ht; subst ht; rfl, rfl⟩
              · refine ⟨rfl, Flag.pure (fun _ _ _ h => h) fun d c w' hd hdeps hcl hS => ?_⟩
                skip
                clear hS hdeps hcl hd
                unfold Oper.wp
                go_simp
                exact ⟨rfl, fun t ht => by injection ht with ht; subst ht; rfl, rfl⟩
              · refine ⟨rfl, Flag.pure (fun _ _ _ h => h) fun d c w' hd hdeps hcl hS => ?_⟩
                skip
                clear hS hdeps hcl hd
                unfold Oper.wp
                go_simp
                exact ⟨rfl, fun t ht => by injection ht with ht; subst ht; rfl, rfl⟩
              · refine ⟨rfl, Flag.pure (fun _ _ _ h => h) fun d c w' hd hdeps hcl hS => ?_⟩
                have d17 := hcl.down (k := 17) (j := 4) rfl (by kernel_rfl) hd
                have d20 := hcl.down (k := 20) (j := 17) rfl (by kernel_rfl) d17
                have s0 := (hS.m0 d20).c1
                clear d17 d20
                clear hS hdeps hcl hd
                unfold Oper.wp
                go_simp
                exact ⟨rfl, fun t ht => by injection ht with ht; subst ht; rfl, rfl⟩
              · refine ⟨rfl, Flag.pure (fun _ _ _ h => h) fun d c w' hd hdeps hcl hS => ?_⟩
                skip
                clear hS hdeps hcl hd
                unfold Oper.wp
                go_simp
                exact ⟨rfl, fun t ht => by injection ht with ht; subst ht; rfl, rfl⟩
              · refine ⟨rfl, Flag.pure (fun _ _ _ h => h) fun d c w' hd hdeps hcl hS => ?_⟩
                skip
                clear hS hdeps hcl hd
                unfold Oper.wp
                go_simp
                exact ⟨rfl, fun t ht => by injection ht with ht; subst ht; rfl, rfl⟩
              · refine ⟨rfl, Flag.pure (fun _ _ _ h => h) fun d c w' hd hdeps hcl hS => ?_⟩
                have d8 := hcl.down (k := 8) (j := 7) rfl (by kernel_rfl) hd
                have d17 := hcl.down (k := 17) (j := 8) rfl (by kernel_rfl) d8
                have s0 := hS.box d17
                clear d8 d17
                clear hS hdeps hcl hd
                unfold Oper.wp
                go_simp
                exact ⟨rfl, fun t ht => by injection ht with ht; subst ht; rfl, rfl⟩
              · refine ⟨rfl, fun d c w' hd hdeps hcl hS => ?_⟩
                have hS2 := Lib.hid hS
                clear hS hdeps hcl
                unfold Oper.wp
                go_simp
                refine (number_any f _ hvf).mono ?_
                rintro e w2 ⟨rfl, hb⟩
                refine FlagPost.own c 112 (I (num f)) rfl rfl rfl ?_ rfl
                exact hS2.out.below hb
              · refine ⟨rfl, Flag.pure (fun _ _ _ h => h) fun d c w' hd hdeps hcl hS => ?_⟩
                skip
                clear hS hdeps hcl hd
                unfold Oper.wp
                go_simp
                exact ⟨rfl, fun t ht => by injection ht with ht; subst ht; rfl, rfl⟩
              · refine ⟨rfl, Flag.pure (fun _ _ _ h => h) fun d c w' hd hdeps hcl hS => ?_⟩
                skip
                clear hS hdeps hcl hd
                unfold Oper.wp
                go_simp
                exact ⟨rfl, fun t ht => by injection ht with ht; subst ht; rfl, rfl⟩
              · refine ⟨rfl, Flag.pure (fun _ _ _ h => h) fun d c w' hd hdeps hcl hS => ?_⟩
                skip
                clear hS hdeps hcl hd
                unfold Oper.wp
                go_simp
                exact ⟨rfl, fun t ht => by injection ht with ht; subst ht; rfl, rfl⟩
              · refine ⟨rfl, Flag.pure (fun _ _ _ h => h) fun d c w' hd hdeps hcl hS => ?_⟩
                have d13 := hcl.down (k := 13) (j := 12) rfl (by kernel_rfl) hd
                have d14 := hcl.down (k := 14) (j := 13) rfl (by kernel_rfl) d13
                have d15 := hcl.down (k := 15) (j := 14) rfl (by kernel_rfl) d14
                have d16 := hcl.down (k := 16) (j := 15) rfl (by kernel_rfl) d15
                have d17 := hcl.down (k := 17) (j := 16) rfl (by kernel_rfl) d16
                have d20 := hcl.down (k := 20) (j := 17) rfl (by kernel_rfl) d17
                have s0 := (hS.m0 d20).cp (j := (num f).toNat) (by omega)
                rw [Hpl.out] at s0
                clear d13 d14 d15 d16 d17 d20
                clear hS hdeps hcl hd
                unfold Oper.wp
                go_simp
                exact ⟨rfl, fun t ht => by injection ht with ht; subst ht; rfl, rfl⟩
              · refine ⟨rfl, Flag.pure (fun _ _ _ h => h) fun d c w' hd hdeps hcl hS => ?_⟩
                clear hS hdeps hcl hd
                unfold Oper.wp
                go_simp
                exact ⟨rfl, fun t ht => by injection ht with ht; subst ht; rfl, rfl⟩
              · refine ⟨rfl, Flag.pure (fun _ _ _ h => h) fun d c w' hd hdeps hcl hS => ?_⟩
                skip
                clear hS hdeps hcl hd
                unfold Oper.wp
                go_simp
                exact ⟨rfl, fun t ht => by injection ht with ht; subst ht; rfl, rfl⟩
              · refine ⟨rfl, Flag.pure (fun _ _ _ h => h) fun d c w' hd hdeps hcl hS => ?_⟩
                have s0 := (HK.out.grown hS.gr).wd.rd.at_ (k := p) hpv
                obtain ⟨b', off', e, _, s0⟩ := s0
                injection e with e
                injection e with e1 e2 _
                subst e1 e2
                rw [Nat.zero_add, Hgv.out] at s0
                clear hS hdeps hcl hd
                unfold Oper.wp
                go_simp
                exact ⟨rfl, fun t ht => by injection ht with ht; subst ht; rfl, rfl⟩
              · refine ⟨rfl, fun d c w' hd hdeps hcl hS => ?_⟩
                have d17 := hcl.down (k := 17) (j := 16) rfl (by kernel_rfl) hd
                have d20 := hcl.down (k := 20) (j := 17) rfl (by kernel_rfl) d17
                simp only [d17, d20] at hS
                have hS2 := Lib.hid hS.do16
                clear hS hdeps hcl
                unfold Oper.wp
                go_simp
                refine FlagPost.own ({ c with q16 := w'.heap.size } : G23) 120 (.slice (some ⟨w'.heap.size, 0, none⟩) 1 1) rfl rfl rfl ?_ rfl
                show S23 _ _ _ _ _ _ _ _ _ true (d 17) (d 20) _ _
                rw [d17, d20]
                exact hS2.out
              · refine ⟨rfl, fun d c w' hd hdeps hcl hS => ?_⟩
                have d16 := hdeps 16 (by kernel_rfl)
                have d20 := hcl.down (k := 20) (j := 17) rfl (by kernel_rfl) hd
                simp only [d16, hd, d20] at hS
                have c16 := (hS.s16 rfl rfl).1
                have hl : ((List.range r).map wf).length = r := by simp
                have ho : ∃ A c, wk = .slice A r c := by obtain ⟨A, c, e, _⟩ := (hS.r0 rfl).form; rw [hl] at e; exact ⟨A, c, e⟩
                refine wp_pushV (.tmp 108) (.tmp 120) rfl ws.heap.size wk ((List.range r).map wf) rfl (hS.r0 rfl) c.q16 1 (.slice A' N' c') rfl rfl c16 (by rw [hl]; omega) hS.gr.size ?_
                intro g' cap w2 hown hgr hor _
                refine FlagPost.own ({ c with v17 := .slice (some ⟨g', 0, none⟩) (((List.range r).map wf).length + 1) cap } : G23) 121 (.slice (some ⟨g', 0, none⟩) (((List.range r).map wf).length + 1) cap) rfl rfl rfl ?_ rfl
                show S23 _ _ _ _ _ _ _ _ _ (d 16) true (d 20) _ _
                rw [d16, d20]
                exact hS.do17 hg0 hown hgr
              · refine ⟨rfl, Flag.pure (fun _ _ _ h => h) fun d c w' hd hdeps hcl hS => ?_⟩
                skip
                clear hS hdeps hcl hd
                unfold Oper.wp
                go_simp
                exact ⟨rfl, fun t ht => by injection ht with ht; subst ht; rfl, rfl⟩
              · refine ⟨rfl, Flag.pure (fun _ _ _ h => h) fun d c w' hd hdeps hcl hS => ?_⟩
                skip
                clear hS hdeps hcl hd
                unfold Oper.wp
                go_simp
                exact ⟨rfl, fun t ht => by injection ht with ht; subst ht; rfl, rfl⟩
              · refine ⟨rfl, fun d c w' hd hdeps hcl hS => ?_⟩
                have d17 := hdeps 17 (by kernel_rfl)
                have d16 := hcl.up (k := 17) (j := 16) rfl (by kernel_rfl) d17
                simp only [d16, d17, hd] at hS
                obtain ⟨g', c2, e⟩ := (hS.r1 rfl).some_ (by simp)
                have hl2 : ((List.range r).map wf ++ [Value.slice A' N' c']).length = r + 1 := by simp
                rw [hl2] at e
                obtain ⟨q16, v17⟩ := c
                simp only at e
                subst e
                have z := (hS.m0 rfl).fr 1
                have z1 := (hS.m0 rfl).c1
                have hS2 := Lib.hid (hS.do20 hg0)
                clear hS hdeps hcl
                unfold Oper.wp
                go_simp
                refine ⟨_, [], ⟨rfl, fun t ht => by cases ht⟩, ?_, rfl, by simp⟩
                show S23 _ _ _ _ _ _ _ _ _ (d 16) (d 17) true _ _
                rw [d16, d17]
                exact hS2.out
            case hQ =>
              intro d c we hall hS
              have hS : S23 ws w.heap.size (.slice (some ⟨gE, 0, none⟩) ps.length cE) wk pl ((List.range r).map wf) (.slice A' N' c') wr.heap.size f (d 16) (d 17) (d 20) c we := hS
              rw [hall 16 (by decide), hall 17 (by decide), hall 20 (by decide)] at hS
              clear hall
              have hr1 := hS.r1 rfl
              have hm1 := hS.m1 rfl
              have hgr := hS.gr
              have e1 : (List.range r).map wf ++ [.slice A' N' c'] = (List.range (r + 1)).map wf := by rw [List.range_succ, List.map_append, ← Hwr.out]; rfl
              rw [e1] at hr1
              go_wp2
              go_roundw
              case rel => exact ⟨r + 1, _, by go_num, by omega, hgr, hm1, hr1⟩
              case measure => simp [intOf]; omega
          · obtain rfl : r = ps.length := by omega
            have hrl' : ¬ ((ps.length : Int) < (ps.length : Int)) := by omega
            have HK2 := Lib.hid (HK.out.grown hG)
            have HO2 := Lib.hid hO
            have c0 := hM.c0
            have HM2 := Lib.hid hM
            have hgl := hG.size
            clear hG hO hM hrl HK
            go_wp2_with fail
            obtain ⟨wT, hwT⟩ : ∃ wT, wT = wr := ⟨_, rfl⟩
            rw [← hwT]
            rw [← hwT] at HK2 HO2 HM2 hgl
            clear c0 hwT
            go_loopw [130] (fun i wr => ∃ (r : Nat) (pl' : Nat → Int), i = .int .i64 r ∧ r ≤ ps.length ∧ wT.grownBy wr (some w.heap.size) ∧ Mono wr w.heap.size (.slice (some ⟨gE, 0, none⟩) ps.length cE) wk pl' ∧ PlcTo n E (ps.map (·.1)) r pl') (fun i _ => ps.length - (intOf i).toNat)
            case atStart => exact ⟨0, _, rfl, by omega, World.grownBy.refl wT _, HM2.out, PlcTo.start HPl.out⟩
            case round =>
              clear HM2
              obtain ⟨r, pl', rfl, hr, hG, hM, hP⟩ := hrel
              by_cases hrl : r < ps.length
              · have HK1 := Lib.hid (HK2.out.grown hG)
                obtain ⟨f, hf⟩ : ∃ f, f = gm E r := ⟨_, rfl⟩
                have hfE : f ∈ E := by rw [hf]; exact gm_mem (by omega)
                have hvf := (HMon.out f hfE).1
                have nb0 := (num_bd hvf).1
                have nb1 := (num_bd hvf).2
                have s0 : SixAt wr gE (r * 6) f := by
                  have h6 := RdM.at_ HK1.out.e.rd (k := r) (by omega)
                  obtain ⟨b', off', e, _, h6⟩ := h6
                  injection e with e
                  injection e with e1 e2 _
                  subst e1 e2
                  rw [Nat.zero_add, ← hf] at h6
                  exact h6
                have hrE : (r : Int) < (ps.length : Int) := by omega
                have hPs := hP.step HEn.out (by omega) HMon.out
                rw [← hf] at hPs
                have HPs := Lib.hid hPs
                have HG1 := Lib.hid hG
                have HM1 := Lib.hid hM
                clear hf hfE hG hM hP hPs
                go_wp2_with fail
                obtain ⟨wb, hwb⟩ : ∃ wb, wb = wr.alloc (.cells (mc f) 31) := ⟨_, rfl⟩
                have hszb : wb.heap.size = wr.heap.size + 1 := by rw [hwb]; simp
                have hbb : Below wr.heap.size wr wb := by rw [hwb]; exact (Below.refl _ _).alloc (Nat.le_refl _) _
                have H6 : Hid (Six wb wr.heap.size f) := by show Six _ _ _; rw [hwb]; exact Blk.six (Blk.new wr _ _)
                have HM3 := Lib.hid (HM1.out.below hbb HM1.out.lt)
                have HG3 := Lib.hid (grownBy_below HG1.out hbb)
                have hgM := HM3.out.lt
                have H6l := H6.out.lt
                rw [← hwb]
                clear hwb hbb s0 HG1 HM1 HK1
                have hw1 : IntKind.i64.wrap ((r : Int) + 1) = (r : Int) + 1 := IntWalk.i64_in _ ⟨by omega, by omega⟩
                refine wp_region_last [] rfl (by kernel_rfl) (by kernel_rfl) (by kernel_rfl) (by kernel_rfl) (fun w' => Below wb.heap.size wb w')
                  (fun w' => ∃ w3, Below wb.heap.size wb w3 ∧ w' = w3.setCell ⟨w.heap.size, 2 + (num f).toNat, none⟩ (I ((r : Int) + 1))) _
                  [.pointer (some ⟨w.heap.size, 0, none⟩), .agg (mc f), I (num f), I r, I ((r : Int) + 1), .pointer (some ⟨w.heap.size, 0, none⟩), .pointer (some ⟨w.heap.size, 2, none⟩), .pointer (some ⟨w.heap.size, 2 + (num f).toNat, none⟩), undef]
                  (by simp only [putAll, List.setIfInBounds_toArray, List.set_cons_succ, List.set_cons_zero]; rfl) (Below.refl _ _).drew 8 _ rfl rfl ?hop ?hst ?hQ
                case hop =>
                  refine FixBL.toL (fun w' w'' hS hb => hS.trans (hb.mono hS.size)) _ _ ?_
                  refine ⟨.inr ?_, .inr ?_, .inr ?_, .inr ?_, .inr ?_, .inr ?_, .inr ?_, .inr ?_, .inl rfl, trivial⟩
                  · (with_reducible refine FixB.of ?_ ?_; rfl; intro w' hS; have s0 := H6.out.below hS H6l; clear hS; unfold Oper.wp; go_simp; first | done | exact Below.refl _ _)
                  · (with_reducible refine FixB.of ?_ ?_; rfl; intro w' hS; have s0 := H6.out.below hS H6l; clear hS; unfold Oper.wp; go_simp; first | done | exact Below.refl _ _)
                  · (with_reducible refine FixB.of ?_ ?_; rfl; intro w' hS; have s3 := Lib.hid hS; unfold Oper.wp; clear hS; go_simp; refine (number_any f _ hvf).mono ?_; rintro e w1 ⟨rfl, hb⟩; exact ⟨rfl, hb⟩)
                  · (with_reducible refine FixB.of ?_ ?_; rfl; intro w' hS; have s0 := H6.out.below hS H6l; clear hS; unfold Oper.wp; go_simp; first | done | exact Below.refl _ _)
                  · (with_reducible refine FixB.of ?_ ?_; rfl; intro w' hS; have s0 := H6.out.below hS H6l; clear hS; unfold Oper.wp; go_simp; first | done | exact Below.refl _ _)
                  · (with_reducible refine FixB.of ?_ ?_; rfl; intro w' hS; have s0 := H6.out.below hS H6l; clear hS; unfold Oper.wp; go_simp; first | done | exact Below.refl _ _)
                  · (with_reducible refine FixB.of ?_ ?_; rfl; intro w' hS; have s0 := H6.out.below hS H6l; clear hS; unfold Oper.wp; go_simp; first | done | exact Below.refl _ _)
                  · (with_reducible refine FixB.of ?_ ?_; rfl; intro w' hS; have s0 := H6.out.below hS H6l; clear hS; unfold Oper.wp; go_simp; first | done | exact Below.refl _ _)
                case hst =>
                  refine ⟨rfl, fun w' hS => ?_⟩
                  have hMM := HM3.out.below hS hgM
                  have c0 := hMM.cp (j := (num f).toNat) (by omega)
                  have z0 := hMM.fr (2 + (num f).toNat)
                  have Hs := Lib.hid hS
                  clear hS hMM
                  unfold Oper.wp
                  go_simp
                  exact ⟨w', hszb ▸ Hs.out, rfl⟩
                case hQ =>
                  rintro w' ⟨w3, hS, rfl⟩
                  have HM4 := Lib.hid ((HM3.out.below hS hgM).setp (k := (num f).toNat) (by omega) ((r : Int) + 1))
                  have HG4 : Hid (wT.grownBy (w3.setCell ⟨w.heap.size, 2 + (num f).toNat, none⟩ (I ((r : Int) + 1))) (some w.heap.size)) := grownBy_set' (grownBy_below HG3.out hS)
                  clear hS HM3 HG3 H6
                  go_wp2
                  go_roundw
                  case rel => exact ⟨r + 1, _, by go_num, by omega, HG4.out, HM4.out, HPs.out⟩
                  case measure => simp [intOf]; omega
              · obtain rfl : r = ps.length := by omega
                have hrl' : ¬ ((ps.length : Int) < (ps.length : Int)) := by omega
                have hK3 := HK2.out.grown hG
                have hO3 := HO2.out.grown hG fun g hg e => by injection e with e; have := (HO2.out.lt g hg).1; omega
                have hplc := hP.fin (by omega) HEF.out
                have hsz3 := hG.size
                have HA : Hid (MonAt n w.heap.size w.heap.size E (E.map (wordOf ps)) wr) := by
                  refine ⟨Nat.le_refl _, _, _, _, _, hM, hplc, hK3.e.mono (by omega), hO3.mono (by omega), by simp [hEl], by simp, fun j hj => ?_⟩
                  have hj' : j < ps.length := by omega
                  have hF := (HEF.out _).1 (gm_mem hj)
                  have hix : ix (ps.map (·.1)) (gm E j) < ps.length := by have := ix_lt hF; simpa using this
                  have e1 : gv ((List.range ps.length).map wf) j = gv vs (ix (ps.map (·.1)) (gm E j)) := by
                    rw [gv_eq (by simpa using hj'), List.getElem_map, List.getElem_range, Hwf.out]
                  have e2 : (E.map (wordOf ps)).getD j [] = (pm ps (ix (ps.map (·.1)) (gm E j))).2 := by
                    rw [List.getD_eq_getElem?_getD, List.getElem?_map, List.getElem?_eq_getElem hj, ← gm_eq hj]; rfl
                  rw [e1, e2]
                  exact (hK3.ws _ hix).mono (by omega)
                have HBel := Lib.hid hK3.bel
                clear hK3 hO3 hplc hG hM hP
                go_wp2
                go_ret2
                exact ⟨_, by rw [Hc0.out] <;> rfl, HBel.out, fun h => (by rw [Hcl.out] at h; cases h), fun ps' h => by
                  rw [Hcl.out] at h
                  injection h with h
                  subst h
                  exact ⟨_, rfl, by rw [← HEE.out]; exact HA.out⟩⟩
end Go.Proofs.YtchjegojcpbfpaaGreat
