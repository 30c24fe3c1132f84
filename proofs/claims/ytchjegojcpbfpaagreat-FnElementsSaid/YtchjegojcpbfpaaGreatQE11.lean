/- Contract of LeastGenerating of the program; the lists are as the theorem states. Contract of LeastGenerating of the reference; the lists are as the theorem states. Contracts of ranks, inverses and renumbered maps, with their codes; no conditions beyond those that each theorem states. -/
import Derived.Test.YtchjegojcpbfpaaGreatQE09
set_option linter.unusedSimpArgs false
set_option linter.unusedVariables false
namespace Go.Proofs.YtchjegojcpbfpaaGreat
open Go.RowKit
set_option maxRecDepth 100000
set_option linter.unusedSimpArgs false
set_option linter.unusedVariables false
theorem gi_mem' {zs : List Int} {k : Nat} (h : k < zs.length) : gi zs k ∈ zs := by
  unfold gi
  rw [List.getD_eq_getElem?_getD, List.getElem?_eq_getElem h]
  exact List.getElem_mem h
set_option maxHeartbeats 4000000 in
theorem ImplLG_any (A : Option Addr) (n c : Nat) (ms : List M) (w : World) (hx : RdM w w.heap.size A ms) (hn : ms.length = n) (hA : A = none → n = 0 ∧ c = 0) (hb : n < 536870912) :
    Calls Tryz.prog 23 #[.slice A n c] w (RetI (lgR ms) (monC ms []) w) := by
  have Hx := Lib.hid hx
  have Hn := Lib.hid hn
  have HA := Lib.hid hA
  clear hx hn hA
  by_cases hm : monC ms [] = 0
  · obtain ⟨E, ps, hE, _⟩ := monC_el hm
    have hlen := hE.len
    have hpos := hE.pos
    have hn1 := hE.n1
    have hn6 := hE.n6
    have hp1 := hE.p1
    have hp5 := hE.p5
    rw [Hn.out] at hn1 hn6
    obtain ⟨N, hN⟩ : ∃ N, E.length = N := ⟨_, rfl⟩
    rw [hN] at hlen hpos
    obtain ⟨p, hp⟩ : ∃ p, p = (gm ms 0).p := ⟨_, rfl⟩
    rw [← hp] at hp1 hp5
    obtain ⟨G, hG⟩ : ∃ G, G = lgG ms p N := ⟨_, rfl⟩
    have hR : lgR ms = leastI G n := by unfold lgR; rw [if_pos hm, hE.r, hN, ← hp, ← hG, Hn.out]
    obtain ⟨K, hK⟩ : ∃ K, K = 2 ^ n := ⟨_, rfl⟩
    have hK64 : K ≤ 64 := by
      have : 2 ^ n ≤ 2 ^ 6 := Nat.pow_le_pow_right (by decide) hn6
      rw [hK]; simpa using this
    have e3 : IntKind.u64.wrap ((2 : Int) ^ n) = (K : Int) := by
      have : ((2 : Int) ^ n) = (K : Int) := by rw [hK]; push_cast; rfl
      rw [this]; exact IntWalk.u64_in _ ⟨by omega, by omega⟩
    have HR := Lib.hid hR
    have hclo : clo ms p = some ps := by rw [hp]; exact hE.clo
    have hPG : Pts p ms := by rw [hp]; exact hE.G
    have Hclo := Lib.hid hclo
    have HPG := Lib.hid hPG
    have HN := Lib.hid hN
    have HE := Lib.hid hE
    have Hm := Lib.hid hm
    have Hp := Lib.hid hp
    have HG := Lib.hid hG
    have HK := Lib.hid hK
    clear hE hR hm hN hp hG hK hclo hPG
    go_enter Tryz.func23, Tryz.ntmps23
    go_wp2_with fail
    refine (monoidOf_any A none n c 0 0 ms [] w Hx.out Rd.nil_ Hn.out rfl HA.out (fun _ => ⟨rfl, rfl⟩) (by omega)).mono ?_
    rintro e w3 ⟨r, v, rfl, hb3, hr0, hs⟩
    obtain ⟨g0, rfl, hM, hv⟩ := hs ps HE.out.clo Hm.out
    rw [← HE.out.eq] at hM
    rw [Hm.out]
    obtain ⟨Av, cv, hvv, hrv⟩ := hv.form
    subst hvv
    have HM := Lib.hid hM
    have Hb3 := Lib.hid hb3
    have hz3 := hb3.size
    clear hM hs hr0 hv hrv hb3
    go_wp2_with fail
    refine (points_any n w3 (by omega)).mono ?_
    rintro e w4 ⟨v, rfl, ho4, hb4⟩
    have Ho4 := Lib.hid (ho4.mono hz3)
    have Hb4 := Lib.hid (Hb3.out.trans (hb4.mono hz3))
    have HM4 := Lib.hid (HM.out.below hb4 (Nat.le_refl _))
    have hz4 := Hb4.out.size
    clear ho4 hb4 HM Hb3
    go_wp2_with fail
    go_loopw [7, 30] (fun v t wr => ∃ u : Nat, t = .int .u64 u ∧ u ≤ K ∧ Below w4.heap.size w4 wr ∧ OwI 2 wr w.heap.size v (bestTo G n u)) (fun _ t _ => K - (intOf t).toNat)
    case atStart => exact ⟨0, rfl, by omega, Below.refl _ _, Ho4.out⟩
    case round =>
      clear Ho4
      obtain ⟨u, rfl, hu, hbr, hor⟩ := hrel
      have hbl := bestTo_len G n u
      obtain ⟨A7, c7, hv7, _⟩ := hor.form
      obtain ⟨bl, hble⟩ : ∃ bl, (bestTo G n u).length = bl := ⟨_, rfl⟩
      rw [hble] at hbl hv7
      subst hv7
      have Hbl := Lib.hid hble
      have Hbr := Lib.hid hbr
      have Hor := Lib.hid hor
      have hszr := hbr.size
      clear hbr hor hble
      by_cases huK : u < K
      · have huz : (u : Int) < (K : Int) := by omega
        have hu64 : u < 64 := by omega
        obtain ⟨sl, hsl⟩ : ∃ sl, (bitsL u).length = sl := ⟨_, rfl⟩
        have hsl6 : sl ≤ 6 := by rw [← hsl]; exact bitsL_len u
        have Hsl := Lib.hid hsl
        have Hst := Lib.hid (bestTo_step G n u)
        have HS : Hid (∀ z ∈ bitsL u, 0 ≤ z ∧ z < n) := bitsL_lt (by omega) (by rw [← HK.out]; exact huK)
        have hon : Hid (∀ w, Calls Tryz.prog 70 #[.int .u64 u] w fun e w' => e = .returned (I sl) ∧ w = w') := fun w => by have := ones_any u hu64 w; rw [hsl] at this; exact this
        clear hsl
        go_wp2_with fail
        refine (chosen_any u hu64 wr).mono ?_
        rintro e w5 ⟨v, rfl, hoS, hb5⟩
        obtain ⟨A5, c5, hv5, _⟩ := hoS.form
        rw [Hsl.out] at hv5
        subst hv5
        have HoX := Lib.hid (hoS.mono (show w.heap.size ≤ wr.heap.size by omega))
        have Ho5 := Lib.hid (Hor.out.below hb5 (Nat.le_refl _))
        have Hb5 := Lib.hid (Hbr.out.trans (hb5.mono hszr))
        have HbX4 := Lib.hid (Hbr.out.trans (hb5.mono hszr))
        have HbXr := Lib.hid (Below.refl w5.heap.size w5)
        have HbX := Lib.hid (Hb4.out.trans (Hb5.out.mono hz4))
        have hz5 := Hb5.out.size
        clear hoS hb5 Hor
        rcases Nat.lt_trichotomy sl bl with hlt | heq | hgt
        · have h1 : ¬ (bl < sl) := by omega
          have h2 : ¬ (sl = bl) := by omega
          have HL : Hid (lessS (bitsL u) (bestTo G n u) = true) := less_lt (by rw [Hsl.out, Hbl.out]; exact hlt)
          go_wp2_with (go_at_call 70; refine (hon.out _).mono ?_; rintro e w' ⟨rfl, rfl⟩)
          go_loopw [10, 55] (fun v k wq => ∃ j : Nat, k = .int .i64 j ∧ j ≤ sl ∧ Below w5.heap.size w5 wq ∧ OwM 31 wq w5.heap.size v (selM ms ((bitsL u).take j))) (fun _ k _ => sl - (intOf k).toNat)
          case atStart => exact ⟨0, rfl, by omega, Below.refl _ _, OwM.nil_⟩
          case round =>
            obtain ⟨j, rfl, hj, hbj, hoj⟩ := hrel
            have Hbj := Lib.hid hbj
            have Hoj := Lib.hid hoj
            have Hbw := Lib.hid (HbX.out.trans (hbj.mono HbX.out.size))
            have hzj := hbj.size
            clear hbj hoj
            by_cases hjs : j < sl
            · have hjz : (j : Int) < (sl : Int) := by omega
              have hz := HS.out (gi (bitsL u) j) (gi_mem' (by rw [Hsl.out]; exact hjs))
              obtain ⟨z, hzn⟩ : ∃ z : Nat, (z : Int) = gi (bitsL u) j := ⟨(gi (bitsL u) j).toNat, by omega⟩
              have hzl : z < n := by omega
              have hzz : (z : Int) < (n : Int) := by omega
              obtain ⟨b5, o5, rfl, hb5', _⟩ := RdI.at_ HoX.out.rdA (k := j) (by rw [Hsl.out]; exact hjs)
              have x5 := RdI.at0' (Rd.below HoX.out.rdA Hbj.out) (k := j) (by rw [Hsl.out]; exact hjs)
              rw [← hzn] at x5
              obtain ⟨b6, o6, rfl, hb6, h6⟩ := RdM.at_ (Rd.below Hx.out Hbw.out) (k := z) (by rw [Hn.out]; exact hzl)
              obtain ⟨y, hy⟩ : ∃ y, y = gm ms z := ⟨_, rfl⟩
              rw [← hy] at h6
              have Htk : Hid (selM ms ((bitsL u).take (j + 1)) = selM ms ((bitsL u).take j) ++ [y]) := by show _ = _; rw [selM_take ms _ (by rw [Hsl.out]; exact hjs), hy, ← hzn]; rfl
              obtain ⟨x0, x1, x2, x3, x4, x6⟩ := h6
              obtain ⟨K5, hK5⟩ : ∃ K5, (selM ms ((bitsL u).take j)).length = K5 := ⟨_, rfl⟩
              have hK6 : K5 ≤ 6 := by rw [← hK5, selM_length, List.length_take]; have := hsl6; omega
              obtain ⟨A8, c8, hv8, _⟩ := Hoj.out.form
              rw [hK5] at hv8
              subst hv8
              have HK5 := Lib.hid hK5
              clear hz hzn hy hK5
              go_wp2_with (at_builtin; refine wpList_pushM rfl (.tmp 59) (.tmp 64) rfl w5.heap.size (.slice A8 K5 c8) (selM ms ((bitsL u).take j)) rfl (Hoj.out.alloc _) K5 HK5.out wr.heap.size 1 y rfl (Blk.six (Blk.new _ _ _)) (by omega) (by simp; omega) (wr.heap.size + 1) (by simp) ?_; intro g' cap w9 ho' hgr hg' hlt'; have Hb9 := Lib.hid ((Hoj.out.alloc (.cells (mc y) 31)).bel (Hbj.out.alloc (by omega) _) hgr (Nat.le_refl _) (by simp; omega)); have Ho9 := Lib.hid ho'; clear ho' hgr hg' hlt')
              go_roundw
              case rel => exact ⟨j + 1, by go_num, by omega, Hb9.out, by rw [Htk.out]; exact Ho9.out⟩
              case measure => simp [intOf]; omega
            · obtain rfl : j = sl := by omega
              have hjz : ¬ ((j : Int) < (j : Int)) := by omega
              have htk : (bitsL u).take j = bitsL u := List.take_of_length_le (by rw [Hsl.out]; exact Nat.le_refl _)
              rw [htk] at Hoj
              have hsub := selM_sub (ms := ms) (S := bitsL u) (by rw [Hn.out]; exact HS.out)
              obtain ⟨qs, hqs⟩ := clo_sub (gens := selM ms (bitsL u)) (gens' := ms) Hclo.out hsub
              have hGd : G (bitsL u) = decide (qs.length = N) := by rw [HG.out]; unfold lgG; rw [hqs]
              obtain ⟨A8, c8, hv8, _⟩ := Hoj.out.form
              rw [selM_length, Hsl.out] at hv8
              subst hv8
              obtain ⟨b6, o6, rfl, hb6, h6⟩ := RdM.at_ (Rd.below Hx.out Hbw.out) (k := 0) (by rw [Hn.out]; omega)
              obtain ⟨x0, _, _, _, _, _⟩ := h6
              rw [Nat.zero_mul, Nat.add_zero, ← Hp.out] at x0
              have hn0 : (0 : Int) < (n : Int) := by omega
              have hPts : Pts p (selM ms (bitsL u)) := fun g hg => HPG.out g (hsub g hg)
              have HPts := Lib.hid hPts
              have HGd := Lib.hid hGd
              have Hqs := Lib.hid hqs
              clear htk hsub hPts hGd hqs
              go_wp2_with fail
              refine (newMonoid_any A8 j c8 (selM ms (bitsL u)) p wr Hoj.out.rdA (by rw [selM_length, Hsl.out]) (by omega) hp1 hp5 HPts.out).mono ?_
              rintro e w9 ⟨r, rfl, hb9, _, hsome⟩
              obtain ⟨g9, rfl, hM9⟩ := hsome qs Hqs.out
              have hN9 : (sortM (qs.map (·.1))).length = qs.length := by rw [sortM_length (clo_good Hqs.out).1.nd, List.length_map]
              have hp9 : 0 < qs.length := by
                obtain ⟨qs', e, _⟩ := (clo_good Hqs.out).1.fst
                rw [e]; simp
              have hq300 := (clo_good Hqs.out).1.len
              obtain ⟨_, ev, wv, pl, vs, hM2, _, hO2, _⟩ := hM9
              obtain ⟨gE, cE, rfl⟩ := hO2.some_ (by rw [hN9]; exact hp9)
              have cm := hM2.c0
              rw [hN9] at cm
              have hbw9 := Hbw.out.trans (hb9.mono Hbw.out.size)
              have hb49 : Below w4.heap.size w4 w9 := (HbX4.out.trans (Hbj.out.mono HbX4.out.size)).trans (hb9.mono (by have := HbX4.out.size; omega))
              obtain ⟨_, ev2, wv2, pl2, vs2, hM3, _, hO3, _⟩ := HM4.out.below hb49 (Nat.le_refl _)
              obtain ⟨gE0, cE0, rfl⟩ := hO3.some_ (by rw [HN.out]; exact hpos)
              have cm0 := hM3.c0
              rw [HN.out] at cm0
              obtain ⟨N9, hN99⟩ : ∃ N9, qs.length = N9 := ⟨_, rfl⟩
              rw [hN99] at cm hq300 HGd
              have lm := World.block_lt_of_cell? w9 ⟨g9, 0, none⟩ cm
              have lm0 := World.block_lt_of_cell? w9 ⟨g0, 0, none⟩ cm0
              have HF : Hid (∀ w', Below w9.heap.size w9 w' → w'.cell? ⟨g9, 0, none⟩ = some (.slice (some ⟨gE, 0, none⟩) N9 cE) ∧ w'.cell? ⟨g0, 0, none⟩ = some (.slice (some ⟨gE0, 0, none⟩) N cE0)) := fun w' hS => ⟨(hS.cell (p := ⟨g9, 0, none⟩) lm).trans cm, (hS.cell (p := ⟨g0, 0, none⟩) lm0).trans cm0⟩
              have Hb9 := Lib.hid hb49
              have Ho9 := Lib.hid (Ho5.out.below ((HbXr.out.trans (Hbj.out.mono HbXr.out.size)).trans (hb9.mono (by have := HbXr.out.size; omega))) (Nat.le_refl _))
              have HoX9 := Lib.hid (HoX.out.below (Hbj.out.trans (hb9.mono hzj)) (Nat.le_refl _))
              have hz9 := hb49.size
              clear hsome hN9 hp9 hM2 hO2 hM3 hO3 cm cm0 lm lm0 hbw9 hb49 hb9 hN99 x0
              by_cases hNN : N9 = N
              · have HB : Hid (bestTo G n (u + 1) = bitsL u) := by show _ = _; rw [Hst.out]; exact best_yes HL.out (by rw [HGd.out]; exact decide_eq_true hNN)
                subst hNN
                go_wp2_with fail
                refine wp_region_same [] rfl (by kernel_rfl) (by kernel_rfl) (by kernel_rfl) (fun w' => Below w9.heap.size w9 w') _
                  [.pointer (some ⟨g9, 0, none⟩), .pointer (some ⟨g9, 0, none⟩), .pointer (some ⟨g9, 0, none⟩), .slice (some ⟨gE, 0, none⟩) N9 cE, I N9, .pointer (some ⟨g0, 0, none⟩), .pointer (some ⟨g0, 0, none⟩), .pointer (some ⟨g0, 0, none⟩), .slice (some ⟨gE0, 0, none⟩) N9 cE0, I N9, .bool true]
                  (by simp only [putAll, List.setIfInBounds_toArray, List.set_cons_succ, List.set_cons_zero]; rfl) (Below.refl _ _).drew ?hop ?hQ
                case hop =>
                  refine FixBL.toL (fun w' w'' hS hb => hS.trans (hb.mono hS.size)) _ _ ?_
                  refine ⟨.inr ?_, .inr ?_, .inr ?_, .inr ?_, .inr ?_, .inr ?_, .inr ?_, .inr ?_, .inr ?_, .inr ?_, .inr ?_, trivial⟩
                  · (with_reducible refine FixB.of ?_ ?_; rfl; intro w' hS; obtain ⟨s0, s1⟩ := HF.out _ hS; clear hS; unfold Oper.wp; go_simp; first | done | exact Below.refl _ _)
                  · (with_reducible refine FixB.of ?_ ?_; rfl; intro w' hS; obtain ⟨s0, s1⟩ := HF.out _ hS; clear hS; unfold Oper.wp; go_simp; first | done | exact Below.refl _ _)
                  · (with_reducible refine FixB.of ?_ ?_; rfl; intro w' hS; obtain ⟨s0, s1⟩ := HF.out _ hS; clear hS; unfold Oper.wp; go_simp; first | done | exact Below.refl _ _)
                  · (with_reducible refine FixB.of ?_ ?_; rfl; intro w' hS; obtain ⟨s0, s1⟩ := HF.out _ hS; clear hS; unfold Oper.wp; go_simp; first | done | exact Below.refl _ _)
                  · (with_reducible refine FixB.of ?_ ?_; rfl; intro w' hS; obtain ⟨s0, s1⟩ := HF.out _ hS; clear hS; unfold Oper.wp; go_simp; first | done | exact Below.refl _ _)
                  · (with_reducible refine FixB.of ?_ ?_; rfl; intro w' hS; obtain ⟨s0, s1⟩ := HF.out _ hS; clear hS; unfold Oper.wp; go_simp; first | done | exact Below.refl _ _)
                  · (with_reducible refine FixB.of ?_ ?_; rfl; intro w' hS; obtain ⟨s0, s1⟩ := HF.out _ hS; clear hS; unfold Oper.wp; go_simp; first | done | exact Below.refl _ _)
                  · (with_reducible refine FixB.of ?_ ?_; rfl; intro w' hS; obtain ⟨s0, s1⟩ := HF.out _ hS; clear hS; unfold Oper.wp; go_simp; first | done | exact Below.refl _ _)
                  · (with_reducible refine FixB.of ?_ ?_; rfl; intro w' hS; obtain ⟨s0, s1⟩ := HF.out _ hS; clear hS; unfold Oper.wp; go_simp; first | done | exact Below.refl _ _)
                  · (with_reducible refine FixB.of ?_ ?_; rfl; intro w' hS; obtain ⟨s0, s1⟩ := HF.out _ hS; clear hS; unfold Oper.wp; go_simp; first | done | exact Below.refl _ _)
                  · (with_reducible refine FixB.of ?_ ?_; rfl; intro w' hS; obtain ⟨s0, s1⟩ := HF.out _ hS; clear hS; unfold Oper.wp; go_simp; first | done | exact Below.refl _ _)
                case hQ =>
                intro wc hS _
                have HB2 := Lib.hid hS
                clear hS
                have Hbn := Lib.hid (Hb9.out.trans (HB2.out.mono hz9))
                have Hon := Lib.hid (HoX9.out.below HB2.out (Nat.le_refl _))
                go_wp2_with fail
                go_roundw
                case rel => exact ⟨u + 1, by go_num, by omega, Hbn.out, by rw [HB.out]; exact Hon.out⟩
                case measure => simp [intOf]; omega
              · have HB : Hid (bestTo G n (u + 1) = bestTo G n u) := by show _ = _; rw [Hst.out]; exact best_no (by rw [HGd.out]; exact decide_eq_false hNN)
                have g1 : ((N9 : Int) == (N : Int)) = false := by simp; omega
                have g2 : (N9 == N) = false := by simp; omega
                go_wp2_with fail
                refine wp_region_same [] rfl (by kernel_rfl) (by kernel_rfl) (by kernel_rfl) (fun w' => Below w9.heap.size w9 w') _
                  [.pointer (some ⟨g9, 0, none⟩), .pointer (some ⟨g9, 0, none⟩), .pointer (some ⟨g9, 0, none⟩), .slice (some ⟨gE, 0, none⟩) N9 cE, I N9, .pointer (some ⟨g0, 0, none⟩), .pointer (some ⟨g0, 0, none⟩), .pointer (some ⟨g0, 0, none⟩), .slice (some ⟨gE0, 0, none⟩) N cE0, I N, .bool false]
                  (by simp only [putAll, List.setIfInBounds_toArray, List.set_cons_succ, List.set_cons_zero]; rfl) (Below.refl _ _).drew ?hop ?hQ
                case hop =>
                  refine FixBL.toL (fun w' w'' hS hb => hS.trans (hb.mono hS.size)) _ _ ?_
                  refine ⟨.inr ?_, .inr ?_, .inr ?_, .inr ?_, .inr ?_, .inr ?_, .inr ?_, .inr ?_, .inr ?_, .inr ?_, .inr ?_, trivial⟩
                  · (with_reducible refine FixB.of ?_ ?_; rfl; intro w' hS; obtain ⟨s0, s1⟩ := HF.out _ hS; clear hS; unfold Oper.wp; go_simp; first | done | exact Below.refl _ _)
                  · (with_reducible refine FixB.of ?_ ?_; rfl; intro w' hS; obtain ⟨s0, s1⟩ := HF.out _ hS; clear hS; unfold Oper.wp; go_simp; first | done | exact Below.refl _ _)
                  · (with_reducible refine FixB.of ?_ ?_; rfl; intro w' hS; obtain ⟨s0, s1⟩ := HF.out _ hS; clear hS; unfold Oper.wp; go_simp; first | done | exact Below.refl _ _)
                  · (with_reducible refine FixB.of ?_ ?_; rfl; intro w' hS; obtain ⟨s0, s1⟩ := HF.out _ hS; clear hS; unfold Oper.wp; go_simp; first | done | exact Below.refl _ _)
                  · (with_reducible refine FixB.of ?_ ?_; rfl; intro w' hS; obtain ⟨s0, s1⟩ := HF.out _ hS; clear hS; unfold Oper.wp; go_simp; first | done | exact Below.refl _ _)
                  · (with_reducible refine FixB.of ?_ ?_; rfl; intro w' hS; obtain ⟨s0, s1⟩ := HF.out _ hS; clear hS; unfold Oper.wp; go_simp; first | done | exact Below.refl _ _)
                  · (with_reducible refine FixB.of ?_ ?_; rfl; intro w' hS; obtain ⟨s0, s1⟩ := HF.out _ hS; clear hS; unfold Oper.wp; go_simp; first | done | exact Below.refl _ _)
                  · (with_reducible refine FixB.of ?_ ?_; rfl; intro w' hS; obtain ⟨s0, s1⟩ := HF.out _ hS; clear hS; unfold Oper.wp; go_simp; first | done | exact Below.refl _ _)
                  · (with_reducible refine FixB.of ?_ ?_; rfl; intro w' hS; obtain ⟨s0, s1⟩ := HF.out _ hS; clear hS; unfold Oper.wp; go_simp; first | done | exact Below.refl _ _)
                  · (with_reducible refine FixB.of ?_ ?_; rfl; intro w' hS; obtain ⟨s0, s1⟩ := HF.out _ hS; clear hS; unfold Oper.wp; go_simp; first | done | exact Below.refl _ _)
                  · (with_reducible refine FixB.of ?_ ?_; rfl; intro w' hS; obtain ⟨s0, s1⟩ := HF.out _ hS; clear hS; unfold Oper.wp; go_simp; first | done | exact Below.refl _ _)
                case hQ =>
                intro wc hS _
                have HB2 := Lib.hid hS
                clear hS
                have Hbn := Lib.hid (Hb9.out.trans (HB2.out.mono hz9))
                have Hon := Lib.hid (Ho9.out.below HB2.out (Nat.le_refl _))
                go_wp2_with fail
                go_roundw
                case rel => exact ⟨u + 1, by go_num, by omega, Hbn.out, by rw [HB.out]; exact Hon.out⟩
                case measure => simp [intOf]; omega
        · have h1 : ¬ ((bl : Int) < (sl : Int)) := by omega
          have h2 : ((sl : Int) == (bl : Int)) = true := by simp; omega
          have HL0 := Lib.hid (less_eq (S := bitsL u) (b := bestTo G n u) (by rw [Hsl.out, Hbl.out]; exact heq))
          subst heq
          go_wp2_with (go_at_call 70; refine (hon.out _).mono ?_; rintro e w' ⟨rfl, rfl⟩)
          refine (slCompare_any A5 A7 sl c5 sl c7 (bitsL u) (bestTo G n u) w5 HoX.out.rdA Ho5.out.rdA Hsl.out Hbl.out (by omega) (by omega)).mono ?_
          rintro e w6 ⟨rfl, hb6⟩
          have HoX6 := Lib.hid (HoX.out.below hb6 (Nat.le_refl _))
          have Ho6 := Lib.hid (Ho5.out.below hb6 (Nat.le_refl _))
          have Hb6 := Lib.hid (Hb5.out.trans (hb6.mono hz5))
          have HbX6 := Lib.hid (HbX.out.trans (hb6.mono HbX.out.size))
          have hz6 := Hb6.out.size
          clear hb6 HoX Ho5 Hb5 HbX HbX4 HbXr
          have HoX := HoX6
          have Ho5 := Ho6
          have HbX := HbX6
          have HbX4 := Hb6
          have HbXr := Lib.hid (Below.refl w6.heap.size w6)
          clear HoX6 Ho6 HbX6
          obtain ⟨cmp, hcmp⟩ : ∃ cmp, cmp = cmpLs (bitsL u) (bestTo G n u) := ⟨_, rfl⟩
          rw [← hcmp] at HL0 ⊢
          clear hcmp
          by_cases hge : 0 ≤ cmp
          · have HL : Hid (bestTo G n (u + 1) = bestTo G n u) := by show _ = _; rw [Hst.out]; exact best_skip (by rw [HL0.out]; exact decide_eq_false (by omega))
            go_wp2_with fail
            go_roundw
            case rel => exact ⟨u + 1, by go_num, by omega, Hb6.out, by rw [HL.out]; exact Ho5.out⟩
            case measure => simp [intOf]; omega
          · have HL : Hid (lessS (bitsL u) (bestTo G n u) = true) := by show _ = _; rw [HL0.out]; exact decide_eq_true (by omega)
            go_wp2_with fail
            go_loopw [10, 55] (fun v k wq => ∃ j : Nat, k = .int .i64 j ∧ j ≤ sl ∧ Below w6.heap.size w6 wq ∧ OwM 31 wq w6.heap.size v (selM ms ((bitsL u).take j))) (fun _ k _ => sl - (intOf k).toNat)
            case atStart => exact ⟨0, rfl, by omega, Below.refl _ _, OwM.nil_⟩
            case round =>
              obtain ⟨j, rfl, hj, hbj, hoj⟩ := hrel
              have Hbj := Lib.hid hbj
              have Hoj := Lib.hid hoj
              have Hbw := Lib.hid (HbX.out.trans (hbj.mono HbX.out.size))
              have hzj := hbj.size
              clear hbj hoj
              by_cases hjs : j < sl
              · have hjz : (j : Int) < (sl : Int) := by omega
                have hz := HS.out (gi (bitsL u) j) (gi_mem' (by rw [Hsl.out]; exact hjs))
                obtain ⟨z, hzn⟩ : ∃ z : Nat, (z : Int) = gi (bitsL u) j := ⟨(gi (bitsL u) j).toNat, by omega⟩
                have hzl : z < n := by omega
                have hzz : (z : Int) < (n : Int) := by omega
                obtain ⟨b5, o5, rfl, hb5', _⟩ := RdI.at_ HoX.out.rdA (k := j) (by rw [Hsl.out]; exact hjs)
                have x5 := RdI.at0' (Rd.below HoX.out.rdA Hbj.out) (k := j) (by rw [Hsl.out]; exact hjs)
                rw [← hzn] at x5
                obtain ⟨b6, o6, rfl, hb6, h6⟩ := RdM.at_ (Rd.below Hx.out Hbw.out) (k := z) (by rw [Hn.out]; exact hzl)
                obtain ⟨y, hy⟩ : ∃ y, y = gm ms z := ⟨_, rfl⟩
                rw [← hy] at h6
                have Htk : Hid (selM ms ((bitsL u).take (j + 1)) = selM ms ((bitsL u).take j) ++ [y]) := by show _ = _; rw [selM_take ms _ (by rw [Hsl.out]; exact hjs), hy, ← hzn]; rfl
                obtain ⟨x0, x1, x2, x3, x4, x6⟩ := h6
                obtain ⟨K5, hK5⟩ : ∃ K5, (selM ms ((bitsL u).take j)).length = K5 := ⟨_, rfl⟩
                have hK6 : K5 ≤ 6 := by rw [← hK5, selM_length, List.length_take]; have := hsl6; omega
                obtain ⟨A8, c8, hv8, _⟩ := Hoj.out.form
                rw [hK5] at hv8
                subst hv8
                have HK5 := Lib.hid hK5
                clear hz hzn hy hK5
                go_wp2_with (at_builtin; refine wpList_pushM rfl (.tmp 59) (.tmp 64) rfl w6.heap.size (.slice A8 K5 c8) (selM ms ((bitsL u).take j)) rfl (Hoj.out.alloc _) K5 HK5.out wr.heap.size 1 y rfl (Blk.six (Blk.new _ _ _)) (by omega) (by simp; omega) (wr.heap.size + 1) (by simp) ?_; intro g' cap w9 ho' hgr hg' hlt'; have Hb9 := Lib.hid ((Hoj.out.alloc (.cells (mc y) 31)).bel (Hbj.out.alloc (by omega) _) hgr (Nat.le_refl _) (by simp; omega)); have Ho9 := Lib.hid ho'; clear ho' hgr hg' hlt')
                go_roundw
                case rel => exact ⟨j + 1, by go_num, by omega, Hb9.out, by rw [Htk.out]; exact Ho9.out⟩
                case measure => simp [intOf]; omega
              · obtain rfl : j = sl := by omega
                have hjz : ¬ ((j : Int) < (j : Int)) := by omega
                have htk : (bitsL u).take j = bitsL u := List.take_of_length_le (by rw [Hsl.out]; exact Nat.le_refl _)
                rw [htk] at Hoj
                have hsub := selM_sub (ms := ms) (S := bitsL u) (by rw [Hn.out]; exact HS.out)
                obtain ⟨qs, hqs⟩ := clo_sub (gens := selM ms (bitsL u)) (gens' := ms) Hclo.out hsub
                have hGd : G (bitsL u) = decide (qs.length = N) := by rw [HG.out]; unfold lgG; rw [hqs]
                obtain ⟨A8, c8, hv8, _⟩ := Hoj.out.form
                rw [selM_length, Hsl.out] at hv8
                subst hv8
                obtain ⟨b6, o6, rfl, hb6, h6⟩ := RdM.at_ (Rd.below Hx.out Hbw.out) (k := 0) (by rw [Hn.out]; omega)
                obtain ⟨x0, _, _, _, _, _⟩ := h6
                rw [Nat.zero_mul, Nat.add_zero, ← Hp.out] at x0
                have hn0 : (0 : Int) < (n : Int) := by omega
                have hPts : Pts p (selM ms (bitsL u)) := fun g hg => HPG.out g (hsub g hg)
                have HPts := Lib.hid hPts
                have HGd := Lib.hid hGd
                have Hqs := Lib.hid hqs
                clear htk hsub hPts hGd hqs
                go_wp2_with fail
                refine (newMonoid_any A8 j c8 (selM ms (bitsL u)) p wr Hoj.out.rdA (by rw [selM_length, Hsl.out]) (by omega) hp1 hp5 HPts.out).mono ?_
                rintro e w9 ⟨r, rfl, hb9, _, hsome⟩
                obtain ⟨g9, rfl, hM9⟩ := hsome qs Hqs.out
                have hN9 : (sortM (qs.map (·.1))).length = qs.length := by rw [sortM_length (clo_good Hqs.out).1.nd, List.length_map]
                have hp9 : 0 < qs.length := by
                  obtain ⟨qs', e, _⟩ := (clo_good Hqs.out).1.fst
                  rw [e]; simp
                have hq300 := (clo_good Hqs.out).1.len
                obtain ⟨_, ev, wv, pl, vs, hM2, _, hO2, _⟩ := hM9
                obtain ⟨gE, cE, rfl⟩ := hO2.some_ (by rw [hN9]; exact hp9)
                have cm := hM2.c0
                rw [hN9] at cm
                have hbw9 := Hbw.out.trans (hb9.mono Hbw.out.size)
                have hb49 : Below w4.heap.size w4 w9 := (HbX4.out.trans (Hbj.out.mono HbX4.out.size)).trans (hb9.mono (by have := HbX4.out.size; omega))
                obtain ⟨_, ev2, wv2, pl2, vs2, hM3, _, hO3, _⟩ := HM4.out.below hb49 (Nat.le_refl _)
                obtain ⟨gE0, cE0, rfl⟩ := hO3.some_ (by rw [HN.out]; exact hpos)
                have cm0 := hM3.c0
                rw [HN.out] at cm0
                obtain ⟨N9, hN99⟩ : ∃ N9, qs.length = N9 := ⟨_, rfl⟩
                rw [hN99] at cm hq300 HGd
                have lm := World.block_lt_of_cell? w9 ⟨g9, 0, none⟩ cm
                have lm0 := World.block_lt_of_cell? w9 ⟨g0, 0, none⟩ cm0
                have HF : Hid (∀ w', Below w9.heap.size w9 w' → w'.cell? ⟨g9, 0, none⟩ = some (.slice (some ⟨gE, 0, none⟩) N9 cE) ∧ w'.cell? ⟨g0, 0, none⟩ = some (.slice (some ⟨gE0, 0, none⟩) N cE0)) := fun w' hS => ⟨(hS.cell (p := ⟨g9, 0, none⟩) lm).trans cm, (hS.cell (p := ⟨g0, 0, none⟩) lm0).trans cm0⟩
                have Hb9 := Lib.hid hb49
                have Ho9 := Lib.hid (Ho5.out.below ((HbXr.out.trans (Hbj.out.mono HbXr.out.size)).trans (hb9.mono (by have := HbXr.out.size; omega))) (Nat.le_refl _))
                have HoX9 := Lib.hid (HoX.out.below (Hbj.out.trans (hb9.mono hzj)) (Nat.le_refl _))
                have hz9 := hb49.size
                clear hsome hN9 hp9 hM2 hO2 hM3 hO3 cm cm0 lm lm0 hbw9 hb49 hb9 hN99 x0
                by_cases hNN : N9 = N
                · have HB : Hid (bestTo G n (u + 1) = bitsL u) := by show _ = _; rw [Hst.out]; exact best_yes HL.out (by rw [HGd.out]; exact decide_eq_true hNN)
                  subst hNN
                  go_wp2_with fail
                  refine wp_region_same [] rfl (by kernel_rfl) (by kernel_rfl) (by kernel_rfl) (fun w' => Below w9.heap.size w9 w') _
                    [.pointer (some ⟨g9, 0, none⟩), .pointer (some ⟨g9, 0, none⟩), .pointer (some ⟨g9, 0, none⟩), .slice (some ⟨gE, 0, none⟩) N9 cE, I N9, .pointer (some ⟨g0, 0, none⟩), .pointer (some ⟨g0, 0, none⟩), .pointer (some ⟨g0, 0, none⟩), .slice (some ⟨gE0, 0, none⟩) N9 cE0, I N9, .bool true]
                    (by simp only [putAll, List.setIfInBounds_toArray, List.set_cons_succ, List.set_cons_zero]; rfl) (Below.refl _ _).drew ?hop ?hQ
                  case hop =>
                    refine FixBL.toL (fun w' w'' hS hb => hS.trans (hb.mono hS.size)) _ _ ?_
                    refine ⟨.inr ?_, .inr ?_, .inr ?_, .inr ?_, .inr ?_, .inr ?_, .inr ?_, .inr ?_, .inr ?_, .inr ?_, .inr ?_, trivial⟩
                    · (with_reducible refine FixB.of ?_ ?_; rfl; intro w' hS; obtain ⟨s0, s1⟩ := HF.out _ hS; clear hS; unfold Oper.wp; go_simp; first | done | exact Below.refl _ _)
                    · (with_reducible refine FixB.of ?_ ?_; rfl; intro w' hS; obtain ⟨s0, s1⟩ := HF.out _ hS; clear hS; unfold Oper.wp; go_simp; first | done | exact Below.refl _ _)
                    · (with_reducible refine FixB.of ?_ ?_; rfl; intro w' hS; obtain ⟨s0, s1⟩ := HF.out _ hS; clear hS; unfold Oper.wp; go_simp; first | done | exact Below.refl _ _)
                    · (with_reducible refine FixB.of ?_ ?_; rfl; intro w' hS; obtain ⟨s0, s1⟩ := HF.out _ hS; clear hS; unfold Oper.wp; go_simp; first | done | exact Below.refl _ _)
                    · (with_reducible refine FixB.of ?_ ?_; rfl; intro w' hS; obtain ⟨s0, s1⟩ := HF.out _ hS; clear hS; unfold Oper.wp; go_simp; first | done | exact Below.refl _ _)
                    · (with_reducible refine FixB.of ?_ ?_; rfl; intro w' hS; obtain ⟨s0, s1⟩ := HF.out _ hS; clear hS; unfold Oper.wp; go_simp; first | done | exact Below.refl _ _)
                    · (with_reducible refine FixB.of ?_ ?_; rfl; intro w' hS; obtain ⟨s0, s1⟩ := HF.out _ hS; clear hS; unfold Oper.wp; go_simp; first | done | exact Below.refl _ _)
                    · (with_reducible refine FixB.of ?_ ?_; rfl; intro w' hS; obtain ⟨s0, s1⟩ := HF.out _ hS; clear hS; unfold Oper.wp; go_simp; first | done | exact Below.refl _ _)
                    · (with_reducible refine FixB.of ?_ ?_; rfl; intro w' hS; obtain ⟨s0, s1⟩ := HF.out _ hS; clear hS; unfold Oper.wp; go_simp; first | done | exact Below.refl _ _)
                    · (with_reducible refine FixB.of ?_ ?_; rfl; intro w' hS; obtain ⟨s0, s1⟩ := HF.out _ hS; clear hS; unfold Oper.wp; go_simp; first | done | exact Below.refl _ _)
                    · (with_reducible refine FixB.of ?_ ?_; rfl; intro w' hS; obtain ⟨s0, s1⟩ := HF.out _ hS; clear hS; unfold Oper.wp; go_simp; first | done | exact Below.refl _ _)
                  case hQ =>
                  intro wc hS _
                  have HB2 := Lib.hid hS
                  clear hS
                  have Hbn := Lib.hid (Hb9.out.trans (HB2.out.mono hz9))
                  have Hon := Lib.hid (HoX9.out.below HB2.out (Nat.le_refl _))
                  go_wp2_with fail
                  go_roundw
                  case rel => exact ⟨u + 1, by go_num, by omega, Hbn.out, by rw [HB.out]; exact Hon.out⟩
                  case measure => simp [intOf]; omega
                · have HB : Hid (bestTo G n (u + 1) = bestTo G n u) := by show _ = _; rw [Hst.out]; exact best_no (by rw [HGd.out]; exact decide_eq_false hNN)
                  have g1 : ((N9 : Int) == (N : Int)) = false := by simp; omega
                  have g2 : (N9 == N) = false := by simp; omega
                  go_wp2_with fail
                  refine wp_region_same [] rfl (by kernel_rfl) (by kernel_rfl) (by kernel_rfl) (fun w' => Below w9.heap.size w9 w') _
                    [.pointer (some ⟨g9, 0, none⟩), .pointer (some ⟨g9, 0, none⟩), .pointer (some ⟨g9, 0, none⟩), .slice (some ⟨gE, 0, none⟩) N9 cE, I N9, .pointer (some ⟨g0, 0, none⟩), .pointer (some ⟨g0, 0, none⟩), .pointer (some ⟨g0, 0, none⟩), .slice (some ⟨gE0, 0, none⟩) N cE0, I N, .bool false]
                    (by simp only [putAll, List.setIfInBounds_toArray, List.set_cons_succ, List.set_cons_zero]; rfl) (Below.refl _ _).drew ?hop ?hQ
                  case hop =>
                    refine FixBL.toL (fun w' w'' hS hb => hS.trans (hb.mono hS.size)) _ _ ?_
                    refine ⟨.inr ?_, .inr ?_, .inr ?_, .inr ?_, .inr ?_, .inr ?_, .inr ?_, .inr ?_, .inr ?_, .inr ?_, .inr ?_, trivial⟩
                    · (with_reducible refine FixB.of ?_ ?_; rfl; intro w' hS; obtain ⟨s0, s1⟩ := HF.out _ hS; clear hS; unfold Oper.wp; go_simp; first | done | exact Below.refl _ _)
                    · (with_reducible refine FixB.of ?_ ?_; rfl; intro w' hS; obtain ⟨s0, s1⟩ := HF.out _ hS; clear hS; unfold Oper.wp; go_simp; first | done | exact Below.refl _ _)
                    · (with_reducible refine FixB.of ?_ ?_; rfl; intro w' hS; obtain ⟨s0, s1⟩ := HF.out _ hS; clear hS; unfold Oper.wp; go_simp; first | done | exact Below.refl _ _)
                    · (with_reducible refine FixB.of ?_ ?_; rfl; intro w' hS; obtain ⟨s0, s1⟩ := HF.out _ hS; clear hS; unfold Oper.wp; go_simp; first | done | exact Below.refl _ _)
                    · (with_reducible refine FixB.of ?_ ?_; rfl; intro w' hS; obtain ⟨s0, s1⟩ := HF.out _ hS; clear hS; unfold Oper.wp; go_simp; first | done | exact Below.refl _ _)
                    · (with_reducible refine FixB.of ?_ ?_; rfl; intro w' hS; obtain ⟨s0, s1⟩ := HF.out _ hS; clear hS; unfold Oper.wp; go_simp; first | done | exact Below.refl _ _)
                    · (with_reducible refine FixB.of ?_ ?_; rfl; intro w' hS; obtain ⟨s0, s1⟩ := HF.out _ hS; clear hS; unfold Oper.wp; go_simp; first | done | exact Below.refl _ _)
                    · (with_reducible refine FixB.of ?_ ?_; rfl; intro w' hS; obtain ⟨s0, s1⟩ := HF.out _ hS; clear hS; unfold Oper.wp; go_simp; first | done | exact Below.refl _ _)
                    · (with_reducible refine FixB.of ?_ ?_; rfl; intro w' hS; obtain ⟨s0, s1⟩ := HF.out _ hS; clear hS; unfold Oper.wp; go_simp; first | done | exact Below.refl _ _)
                    · (with_reducible refine FixB.of ?_ ?_; rfl; intro w' hS; obtain ⟨s0, s1⟩ := HF.out _ hS; clear hS; unfold Oper.wp; go_simp; first | done | exact Below.refl _ _)
                    · (with_reducible refine FixB.of ?_ ?_; rfl; intro w' hS; obtain ⟨s0, s1⟩ := HF.out _ hS; clear hS; unfold Oper.wp; go_simp; first | done | exact Below.refl _ _)
                  case hQ =>
                  intro wc hS _
                  have HB2 := Lib.hid hS
                  clear hS
                  have Hbn := Lib.hid (Hb9.out.trans (HB2.out.mono hz9))
                  have Hon := Lib.hid (Ho9.out.below HB2.out (Nat.le_refl _))
                  go_wp2_with fail
                  go_roundw
                  case rel => exact ⟨u + 1, by go_num, by omega, Hbn.out, by rw [HB.out]; exact Hon.out⟩
                  case measure => simp [intOf]; omega
        · have h1 : (bl : Int) < (sl : Int) := by omega
          have HL : Hid (bestTo G n (u + 1) = bestTo G n u) := by show _ = _; rw [Hst.out]; exact best_skip (less_gt (by rw [Hsl.out, Hbl.out]; exact hgt))
          go_wp2_with (go_at_call 70; refine (hon.out _).mono ?_; rintro e w' ⟨rfl, rfl⟩)
          go_roundw
          case rel => exact ⟨u + 1, by go_num, by omega, Hb5.out, by rw [HL.out]; exact Ho5.out⟩
          case measure => simp [intOf]; omega
      · obtain rfl : u = K := by omega
        have huz : ¬ ((u : Int) < (u : Int)) := by omega
        have HF : Hid (bestTo G n u = leastI G n) := by show _ = _; rw [HK.out]; exact bestTo_all G n
        have Hbe := Lib.hid (Hb4.out.trans (Hbr.out.mono hz4))
        go_wp2_with fail
        go_ret2
        exact .mk _ (by rw [Hm.out] <;> rfl) (by rw [HR.out, ← HF.out]; exact Hor.out) Hbe.out
  · have hR := lgR_bad hm
    have hne : (monC ms [] != 0) = true := by simpa using hm
    have HR := Lib.hid hR
    have Hm := Lib.hid hm
    clear hR hm
    go_enter Tryz.func23, Tryz.ntmps23
    go_wp2_with fail
    refine (monoidOf_any A none n c 0 0 ms [] w Hx.out Rd.nil_ Hn.out rfl HA.out (fun _ => ⟨rfl, rfl⟩) (by omega)).mono ?_
    rintro e w3 ⟨r, v, rfl, hb3, hr0, hs⟩
    obtain ⟨rfl, rfl⟩ := hr0 Hm.out
    have Hb3 := Lib.hid hb3
    clear hs hr0 hb3
    go_wp2_with fail
    go_ret2
    exact .mk _ rfl (by rw [HR.out]; exact OwI.nil_) Hb3.out
end Go.Proofs.YtchjegojcpbfpaaGreat

namespace Go.Proofs.YtchjegojcpbfpaaGreat
open Go.RowKit
set_option maxRecDepth 100000
set_option linter.unusedSimpArgs false
set_option linter.unusedVariables false
set_option maxHeartbeats 4000000 in
theorem SpecLG_any (A : Option Addr) (n c : Nat) (ms : List M) (w : World) (hx : RdM w w.heap.size A ms) (hn : ms.length = n) (hb : n < 1073741824) :
    Calls Tryz.prog 24 #[.slice A n c] w (RetSI (lgR ms) (monC ms []) w) := by
  have Hx := Lib.hid hx
  have Hn := Lib.hid hn
  have Hmn := Lib.hid (monC_nil ms)
  clear hx hn
  by_cases hm : monC ms [] = 0
  · obtain ⟨E, ps, hE, _⟩ := monC_el hm
    have hlen := hE.len
    have hpos := hE.pos
    have hn1 := hE.n1
    have hn6 := hE.n6
    have hp1 := hE.p1
    have hp5 := hE.p5
    rw [Hn.out] at hn1 hn6
    obtain ⟨N, hN⟩ : ∃ N, E.length = N := ⟨_, rfl⟩
    rw [hN] at hlen hpos
    obtain ⟨p, hp⟩ : ∃ p, p = (gm ms 0).p := ⟨_, rfl⟩
    rw [← hp] at hp1 hp5
    obtain ⟨G, hG⟩ : ∃ G, G = lgG ms p N := ⟨_, rfl⟩
    have hR : lgR ms = leastS G n := by
      unfold lgR
      rw [if_pos hm, hE.r, hN, ← hp, ← hG, Hn.out]
      refine least_eq G (by omega) ?_
      have := lgG_full hE
      rw [Hn.out, ← hp, hN, ← hG] at this
      exact this
    have hclo : clo ms p = some ps := by rw [hp]; exact hE.clo
    have hPG : Pts p ms := by rw [hp]; exact hE.G
    have Hclo := Lib.hid hclo
    have HPG := Lib.hid hPG
    have HR := Lib.hid hR
    have HN := Lib.hid hN
    have HE := Lib.hid hE
    have Hm := Lib.hid hm
    have Hp := Lib.hid hp
    have HG := Lib.hid hG
    have Hr0 := Lib.hid hE.r
    clear hE hR hm hN hp hG hclo hPG
    go_enter Tryz.func24, Tryz.ntmps24
    go_wp2_with fail
    refine (l02Elements_any A none n c 0 0 ms [] w Hx.out Rd.nil_ Hn.out rfl hb (by decide)).mono ?_
    rintro e w1 ⟨A', c', rfl, hr, hb1⟩
    rw [← Hmn.out, Hm.out, Hr0.out, HN.out]
    have Hb1 := Lib.hid hb1
    have hz1 := hb1.size
    clear hr hb1
    go_wp2_with fail
    go_loopw [6] (fun t wr => ∃ q : Nat, t = .int .i64 q ∧ q ≤ n ∧ Below w1.heap.size w1 wr ∧ Hid (∀ S ∈ partsBelow n q, G S = false)) (fun t _ => n - (intOf t).toNat)
    case atStart => exact ⟨0, rfl, by omega, Below.refl _ _, fun S hS => by simp [partsBelow] at hS⟩
    case round =>
      obtain ⟨q, rfl, hq, hbr, Hno⟩ := hrel
      have Hbr := Lib.hid hbr
      have hszr := hbr.size
      clear hbr
      by_cases hqn : q < n
      · have hqz : (q : Int) < (n : Int) := by omega
        go_wp2_with fail
        have hpt := l02Parts_any n (by omega) q (by omega) 0 (by omega) wr
        refine hpt.mono ?_
        rintro e w2 ⟨v, vs, rfl, ho2, hr2, hb2⟩
        have hvl := hr2.1
        obtain ⟨K, hK⟩ : ∃ K, (parts n 0 q).length = K := ⟨_, rfl⟩
        have hK64 : K ≤ 64 := by rw [← hK]; exact parts_len ⟨n, by omega⟩ ⟨0, by omega⟩ ⟨q, by omega⟩
        rw [hK] at hvl
        obtain ⟨Av, cv, hv, _⟩ := ho2.form
        rw [hvl] at hv
        subst hv
        have HK := Lib.hid hK
        have Hvl := Lib.hid hvl
        have Ho2 := Lib.hid ho2
        have Hr2 := Lib.hid hr2
        have Hb2 := Lib.hid (Hbr.out.trans (hb2.mono hszr))
        have hz2 := Hb2.out.size
        clear hpt ho2 hr2 hb2 hK hvl
        go_wp2_with fail
        go_loopw [8] (fun t wq => ∃ i : Nat, t = .int .i64 i ∧ i ≤ K ∧ Below w2.heap.size w2 wq ∧ Hid (∀ j, j < i → G ((parts n 0 q).getD j []) = false)) (fun t _ => K - (intOf t).toNat)
        case atStart => exact ⟨0, rfl, by omega, Below.refl _ _, fun j hj => by omega⟩
        case round =>
          obtain ⟨i, rfl, hi, hbi, Hni⟩ := hrel
          have Hbi := Lib.hid hbi
          have hzi := hbi.size
          clear hbi
          by_cases hiK : i < K
          · have hiz : (i : Int) < (K : Int) := by omega
            obtain ⟨S, hS⟩ : ∃ S, S = (parts n 0 q).getD i [] := ⟨_, rfl⟩
            have hSl : S.length = q := by rw [hS]; exact parts_row (by omega) (by omega) (by omega) (by rw [HK.out]; exact hiK)
            have hSo : ∀ z ∈ S, 0 ≤ z ∧ z < n := by rw [hS]; exact parts_lt (by omega) (by omega) (by rw [HK.out]; exact hiK)
            obtain ⟨hrow, _⟩ := Hr2.out.2 i (by rw [HK.out]; exact hiK)
            rw [← hS] at hrow
            obtain ⟨A5, c5, hv5, _⟩ := hrow.form
            rw [hSl] at hv5
            rw [hv5] at hrow
            have HrS := Lib.hid hrow.rdB
            have Hv5 := Lib.hid hv5
            have HSl := Lib.hid hSl
            have HSo := Lib.hid hSo
            have HS := Lib.hid hS
            obtain ⟨bp, op, rfl, hbp, _⟩ := RdV.at_ (OwV.rdA' Ho2.out) (k := i) (by rw [Hvl.out]; exact hiK)
            have HPr := Lib.hid (OwV.rdA' Ho2.out)
            clear hrow hv5 hSl hSo hS
            go_wp2_with fail
            obtain ⟨B3, hB3⟩ : ∃ B3, B3 = wr.heap.size := ⟨_, rfl⟩
            go_loopw [9, 10] (fun v t wq => ∃ j : Nat, t = .int .i64 j ∧ j ≤ q ∧ Below wr.heap.size wr wq ∧ OwM 31 wq B3 v (selM ms (S.take j))) (fun _ t _ => q - (intOf t).toNat)
            case atStart => exact ⟨0, rfl, by omega, (Below.refl _ _).alloc (Nat.le_refl _) _, OwM.made (by omega)⟩
            case round =>
              obtain ⟨j, rfl, hj, hbj, hoj⟩ := hrel
              have Hbj := Lib.hid hbj
              have Hoj := Lib.hid hoj
              have Hb2j := Lib.hid (Hbi.out.trans (hbj.mono hzi))
              have Hbw := Lib.hid ((Hb1.out.trans (Hb2.out.mono hz1)).trans (Hb2j.out.mono (by omega)))
              have hzj := hbj.size
              have x7 := RdV.at0' (Rd.below HPr.out Hb2j.out) (k := i) (by rw [Hvl.out]; exact hiK)
              rw [Hv5.out] at x7
              clear hbj hoj
              by_cases hjs : j < q
              · have hjz : (j : Int) < (q : Int) := by omega
                have hz := HSo.out (gi S j) (gi_mem' (by rw [HSl.out]; exact hjs))
                obtain ⟨z, hzn⟩ : ∃ z : Nat, (z : Int) = gi S j := ⟨(gi S j).toNat, by omega⟩
                have hzl : z < n := by omega
                have hzz : (z : Int) < (n : Int) := by omega
                obtain ⟨b5, o5, rfl, hb5', _⟩ := RdI.at_ HrS.out (k := j) (by rw [HSl.out]; exact hjs)
                have x5 := RdI.at0' (Rd.below HrS.out Hb2j.out) (k := j) (by rw [HSl.out]; exact hjs)
                rw [← hzn] at x5
                obtain ⟨b6, o6, rfl, hb6, h6⟩ := RdM.at_ (Rd.below Hx.out Hbw.out) (k := z) (by rw [Hn.out]; exact hzl)
                obtain ⟨y, hy⟩ : ∃ y, y = gm ms z := ⟨_, rfl⟩
                rw [← hy] at h6
                have Htk : Hid (selM ms (S.take (j + 1)) = selM ms (S.take j) ++ [y]) := by show _ = _; rw [selM_take ms _ (by rw [HSl.out]; exact hjs), hy, ← hzn]; rfl
                obtain ⟨x0, x1, x2, x3, x4, x6⟩ := h6
                obtain ⟨K5, hK5⟩ : ∃ K5, (selM ms (S.take j)).length = K5 := ⟨_, rfl⟩
                have hK6 : K5 ≤ 6 := by rw [← hK5, selM_length, List.length_take]; omega
                obtain ⟨A8, c8, hv8, _⟩ := Hoj.out.form
                rw [hK5] at hv8
                subst hv8
                have HK5 := Lib.hid hK5
                clear hz hzn hy hK5
                go_wp2_with (at_builtin; refine wpList_pushM rfl (.tmp 44) (.tmp 55) rfl B3 (.slice A8 K5 c8) (selM ms (S.take j)) rfl (Hoj.out.alloc _) K5 HK5.out wr.heap.size 1 y rfl (Blk.six (Blk.new _ _ _)) (by omega) (by simp; omega) (wr.heap.size + 1) (by simp) ?_; intro g' cap w9 ho' hgr hg' hlt'; have Hb9 := Lib.hid ((Hoj.out.alloc (.cells (mc y) 31)).bel (Hbj.out.alloc (by omega) _) hgr (by omega) (by simp; omega)); have Ho9 := Lib.hid ho'; clear ho' hgr hg' hlt')
                go_roundw
                case rel => exact ⟨j + 1, by go_num, by omega, Hb9.out, by rw [Htk.out]; exact Ho9.out⟩
                case measure => simp [intOf]; omega
              · obtain rfl : j = q := by omega
                have hjz : ¬ ((j : Int) < (j : Int)) := by omega
                have htk : S.take j = S := List.take_of_length_le (by rw [HSl.out]; exact Nat.le_refl _)
                rw [htk] at Hoj
                have hsub := selM_sub (ms := ms) (S := S) (by rw [Hn.out]; exact HSo.out)
                obtain ⟨qs, hqs⟩ := clo_sub (gens := selM ms S) (gens' := ms) Hclo.out hsub
                have hGd : G S = decide (qs.length = N) := by rw [HG.out]; unfold lgG; rw [hqs]
                obtain ⟨A8, c8, hv8, _⟩ := Hoj.out.form
                rw [selM_length, HSl.out] at hv8
                subst hv8
                obtain ⟨b6, o6, rfl, hb6, h6⟩ := RdM.at_ (Rd.below Hx.out Hbw.out) (k := 0) (by rw [Hn.out]; omega)
                obtain ⟨x0, _, _, _, _, _⟩ := h6
                rw [Nat.zero_mul, Nat.add_zero, ← Hp.out] at x0
                have hn0 : (0 : Int) < (n : Int) := by omega
                have hPts : Pts p (selM ms S) := fun g hg => HPG.out g (hsub g hg)
                have HPts := Lib.hid hPts
                have HGd := Lib.hid hGd
                have Hqs := Lib.hid hqs
                clear htk hsub hPts hGd hqs
                go_wp2_with fail
                refine (l02Closed_any A8 j c8 (selM ms S) p wr Hoj.out.rdA (by rw [selM_length, HSl.out]) (by omega) hp1 hp5 HPts.out).mono ?_
                rintro e w9 ⟨v1, v2, rfl, hb9, hsome⟩
                have hO9 := (hsome qs Hqs.out).1
                rw [Hqs.out, show (some qs : Option Met).isSome = true from rfl]
                obtain ⟨A9, c9, hv9, _⟩ := hO9.form
                rw [List.length_map] at hv9
                obtain ⟨N9, hN9⟩ : ∃ N9, qs.length = N9 := ⟨_, rfl⟩
                rw [hN9] at hv9 HGd
                subst hv9
                have Hb9 := Lib.hid (Hb2j.out.trans (hb9.mono (by omega)))
                have y7 := RdV.at0' (Rd.below HPr.out Hb9.out) (k := i) (by rw [Hvl.out]; exact hiK)
                rw [Hv5.out] at y7
                clear hsome hO9 hN9 x0 x7 hb9
                by_cases hNN : N9 = N
                · have HF : Hid (lgR ms = S) := by
                    show _ = _
                    rw [HR.out, HS.out]
                    exact least_found hqn Hno.out (by rw [HK.out]; exact hiK) Hni.out (by rw [← HS.out, HGd.out]; exact decide_eq_true hNN)
                  have Hbe := Lib.hid ((Hb1.out.trans (Hb2.out.mono hz1)).trans (Hb9.out.mono (by omega)))
                  have HrE := Lib.hid (Rd.more (Rd.below HrS.out Hb9.out) Hb9.out.size)
                  subst hNN
                  go_wp2_with fail
                  go_ret2
                  exact .mk A5 c5 (by rw [HF.out, HSl.out, Hm.out] <;> rfl) (by rw [HF.out]; exact HrE.out) Hbe.out
                · have Hn2 : Hid (∀ k, k < i + 1 → G ((parts n 0 j).getD k []) = false) := fun k hk => by
                    by_cases e : k = i
                    · subst e; rw [← HS.out, HGd.out]; exact decide_eq_false hNN
                    · exact Hni.out k (by omega)
                  clear y7
                  go_wp2_with fail
                  go_roundw
                  case rel => exact ⟨i + 1, by go_num, by omega, Hb9.out, Hn2⟩
                  case measure => simp [intOf]; omega
          · obtain rfl : i = K := by omega
            have hiz : ¬ ((i : Int) < (i : Int)) := by omega
            have Hno2 : Hid (∀ S ∈ partsBelow n (q + 1), G S = false) := below_none Hno.out (by rw [HK.out]; exact Hni.out)
            have Hbn := Lib.hid (Hb2.out.trans (Hbi.out.mono hz2))
            go_wp2_with fail
            go_roundw
            case rel => exact ⟨q + 1, by go_num, by omega, Hbn.out, Hno2⟩
            case measure => simp [intOf]; omega
      · obtain rfl : q = n := by omega
        have hqz : ¬ ((q : Int) < (q : Int)) := by omega
        have HF : Hid (lgR ms = fullL q) := by show _ = _; rw [HR.out]; exact least_none Hno.out
        have Hbw := Lib.hid (Hb1.out.trans (Hbr.out.mono hz1))
        go_wp2_with fail
        have hpt := l02Parts_any q (by omega) q (by omega) 0 (by omega) wr
        refine hpt.mono ?_
        rintro e w2 ⟨v, vs, rfl, ho2, hr2, hb2⟩
        have hfull := parts_full ⟨q, by omega⟩
        simp only at hfull
        rw [hfull] at hr2
        obtain ⟨hrow, _⟩ := hr2.2 0 (by simp)
        have hvl := hr2.1
        rw [List.length_singleton] at hvl
        obtain ⟨Av, cv, hv, _⟩ := ho2.form
        rw [hvl] at hv
        subst hv
        obtain ⟨bp, op, rfl, hbp, x7⟩ := RdV.at_ (OwV.rdA' ho2) (k := 0) (by rw [hvl]; exact Nat.zero_lt_one)
        obtain ⟨A5, c5, hv5, _⟩ := hrow.form
        have hfl : (fullL q).length = q := by unfold fullL; rw [List.length_map, List.length_range]
        have hrow : OwI 2 w2 wr.heap.size (gv vs 0) (fullL q) := hrow
        rw [hv5] at hrow x7
        have HrE := Lib.hid hrow.rdB
        have Hbe := Lib.hid (Hbw.out.trans (hb2.mono (by omega)))
        rw [Nat.add_zero] at x7
        clear hpt ho2 hr2 hb2 hrow hv5
        go_wp2_with fail
        go_ret2
        exact .mk A5 c5 (by rw [HF.out, Hm.out, hfl] <;> rfl) (by rw [HF.out]; exact HrE.out) Hbe.out
  · have hR := lgR_bad hm
    have hne : (monC ms [] != 0) = true := by simpa using hm
    have HR := Lib.hid hR
    have Hr0 := Lib.hid (elR_bad (ms := ms) (xs := []) (by rw [← monC_nil]; exact hm))
    clear hR hm
    go_enter Tryz.func24, Tryz.ntmps24
    go_wp2_with fail
    refine (l02Elements_any A none n c 0 0 ms [] w Hx.out Rd.nil_ Hn.out rfl hb (by decide)).mono ?_
    rintro e w1 ⟨A', c', rfl, hr, hb1⟩
    rw [← Hmn.out, Hr0.out]
    have Hb1 := Lib.hid hb1
    clear hr hb1
    go_wp2_with fail
    go_ret2
    exact .mk none 0 (by rw [HR.out] <;> rfl) (by rw [HR.out]; exact Rd.nil_) Hb1.out
end Go.Proofs.YtchjegojcpbfpaaGreat

namespace Go.Proofs.YtchjegojcpbfpaaGreat
open Go.RowKit
set_option maxRecDepth 100000
def rkR (f : M) : Int := if isMap f then (rk f : Int) else 0
theorem rkR_bad {f : M} (h : isMap f = false) : rkR f = 0 := by simp [rkR, h]
theorem rkR_good {f : M} (h : isMap f = true) : rkR f = rk f := by simp [rkR, h]
theorem ImplRank_any (f : M) (w : World) :
    Calls Tryz.prog 30 #[.agg (mc f)] w fun e w' => e = .returned (.tuple #[I (rkR f), I (cInv (isMap f))]) ∧ Below w.heap.size w w' := by
  cases h : isMap f
  · have Hr := Lib.hid (rkR_bad h)
    go_enter Tryz.func30, Tryz.ntmps30
    go_wp2_with fail
    refine (isMap_any _ _).mono ?_
    rintro e w1 ⟨rfl, hb⟩
    rw [h]
    have hbel : Below w.heap.size w w1 := Below.trans (by (repeat (first | with_reducible assumption | with_reducible exact Below.refl _ _ | with_reducible refine Below.setCell ?_ (by first | omega | (simp <;> omega)) _ | with_reducible refine Below.alloc ?_ (by first | omega | (simp <;> omega)) _ | with_reducible refine Below.drew ?_ | with_reducible refine Below.drewN ?_ _))) (hb.mono (by simp <;> omega))
    clear hb
    go_wp2
    go_ret2
    exact ⟨by rw [Hr.out] <;> rfl, hbel⟩
  · have Hr := Lib.hid (rkR_good h)
    have hv := (isMap_iff f).1 h
    go_enter Tryz.func30, Tryz.ntmps30
    go_wp2_with fail
    refine (isMap_any _ _).mono ?_
    rintro e w1 ⟨rfl, hb⟩
    rw [h]
    have hs : Six w1 w.heap.size f := Six.below (Blk.six (Blk.new w _ _)) hb (by simp)
    have hbel : Below w.heap.size w w1 := Below.trans (by (repeat (first | with_reducible assumption | with_reducible exact Below.refl _ _ | with_reducible refine Below.setCell ?_ (by first | omega | (simp <;> omega)) _ | with_reducible refine Below.alloc ?_ (by first | omega | (simp <;> omega)) _ | with_reducible refine Below.drew ?_ | with_reducible refine Below.drewN ?_ _))) (hb.mono (by simp <;> omega))
    clear hb
    go_wp2_with fail
    refine (rank_any f _ hv).mono ?_
    rintro e w2 ⟨rfl, hb⟩
    replace hbel := hbel.trans (hb.mono hbel.size)
    clear hb
    go_wp2
    go_ret2
    exact ⟨by rw [Hr.out] <;> rfl, hbel⟩
end Go.Proofs.YtchjegojcpbfpaaGreat
