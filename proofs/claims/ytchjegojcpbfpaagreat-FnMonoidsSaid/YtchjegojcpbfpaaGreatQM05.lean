/- The contract of spec.l02Closed; the maps are as the theorem states. The numbers of this translation's slices.SortFunc and of what it calls, as the kit's tool lays them; no conditions. The contract of slices.SortFunc on lists of maps by their order; no conditions beyond those that each theorem states. -/
import Derived.Test.YtchjegojcpbfpaaGreatQM04
import Derived.Test.YtchjegojcpbfpaaGreatProg
import Derived.Shelf.SlSortCmp.NoneTotal
import Derived.Ground.SlsfProg
import Derived.Lib.RowBridge
set_option linter.unusedSimpArgs false
set_option linter.unusedVariables false
namespace Go.Proofs.YtchjegojcpbfpaaGreat
open Go.RowKit
set_option maxRecDepth 100000
set_option linter.unusedSimpArgs false
theorem CS.start {n : Int} {w w1 w2 : World} (hb1 : Below w.heap.size w w1) (hb2 : Below (w1.heap.size + 3) (((w1.alloc (.cells (mc (one n)) 31)).alloc (.cells #[] 2)).alloc (.cells #[.slice (some ⟨w1.heap.size + 1, 0, none⟩) 0 0] 39)) w2) :
    CS w [one n] [[]] [.slice (some ⟨w1.heap.size + 1, 0, none⟩) 0 0] [one n] (.slice (some ⟨w1.heap.size, 0, none⟩) 1 1) (.slice (some ⟨w1.heap.size + 2, 0, none⟩) 1 1) ⟨w2.heap.size, 0, none⟩ (w2.alloc (.cells (mc (one n)) 31)) := by
  have z1 := hb1.size
  have z2 := hb2.size
  simp only [World.size_alloc] at z2
  have hbel : Below w.heap.size w w2 := ((((hb1.alloc z1 _).alloc (by simp; omega) _).alloc (by simp; omega) _)).trans (hb2.mono (by omega))
  have o1 : OwM 31 w2 w.heap.size (.slice (some ⟨w1.heap.size, 0, none⟩) 1 1) [one n] := (((OwM.one z1).alloc _).alloc _).below hb2 (by simp)
  have o2 : OwI 2 w2 w.heap.size (.slice (some ⟨w1.heap.size + 1, 0, none⟩) 0 0) [] :=
    ((OwI.made' (by simp) (by omega)).alloc _).below hb2 (by simp)
  have o3 : OwV 39 w2 w.heap.size (.slice (some ⟨w1.heap.size + 2, 0, none⟩) 1 1) [.slice (some ⟨w1.heap.size + 1, 0, none⟩) 0 0] := by
    have h := OwV.one (e := 39) (B := w.heap.size) (w := (w1.alloc (.cells (mc (one n)) 31)).alloc (.cells #[] 2)) (u := .slice (some ⟨w1.heap.size + 1, 0, none⟩) 0 0) (by simp; omega)
    simp only [World.size_alloc] at h
    exact h.below hb2 (by simp)
  refine ⟨hbel.alloc hbel.size _, o1.alloc _, o3.alloc _, rfl, ?_, ?_, by simp, ?_, ?_, ?_⟩
  · intro j hj
    obtain rfl : j = 0 := by simp at hj; exact hj
    exact o2.alloc _
  · have h : OwM 31 (w2.alloc (.cells (mc (one n)) 31)) w2.heap.size (.slice (some ⟨w2.heap.size, 0, none⟩) 1 1) [one n] := OwM.one (Nat.le_refl _)
    exact h.rd
  · intro g hg
    obtain rfl := own_eq hg
    refine ⟨fun e => ?_, by simp; omega⟩
    have := own_eq e
    omega
  · intro g hg
    obtain rfl := own_eq hg
    simp; omega
  · intro j hj g hg
    obtain rfl : j = 0 := by simp at hj; exact hj
    have hg := own_eq hg
    subst hg
    exact ⟨fun e => by have := own_eq e; omega, fun e => by have := own_eq e; omega⟩
theorem getD_snd {ps : Met} {j : Nat} : (ps.map (·.2)).getD j [] = (pm ps j).2 := by
  unfold pm
  simp only [List.getD_eq_getElem?_getD, List.getElem?_map]
  cases ps[j]? <;> rfl
theorem allC_done' {gens : List M} {fuel i : Nat} {ps : Met} (h : ¬ i < ps.length) : allC gens fuel i ps = some ps := by
  cases fuel with
  | zero => rfl
  | succ k => rw [allC, if_neg h]
set_option maxHeartbeats 4000000 in
theorem l02Closed_any (A : Option Addr) (L c : Nat) (gens : List M) (n : Int) (w : World) (hx : RdM w w.heap.size A gens) (hl : gens.length = L) (hL : L < 1073741824) (h1 : 1 ≤ n) (h5 : n ≤ 5) (hG : Pts n gens) :
    Calls Tryz.prog 74 #[.slice A L c, I n] w fun e w' => ∃ v1 v2, e = .returned (.tuple #[v1, v2, .bool (clo gens n).isSome]) ∧ Below w.heap.size w w' ∧ ∀ ps, clo gens n = some ps → OwM 31 w' w.heap.size v1 (ps.map (·.1)) ∧ ∃ vs, OwV 39 w' w.heap.size v2 vs ∧ vs.length = ps.length ∧ ∀ j, j < ps.length → OwI 2 w' w.heap.size (gv vs j) (pm ps j).2 := by
  have Hx := Lib.hid hx
  have Hl := Lib.hid hl
  have HG := Lib.hid hG
  clear hx hl hG
  go_enter Tryz.func74, Tryz.ntmps74
  go_wp2_with fail
  refine (l01Identity_any n _ h1 h5).mono ?_
  rintro e w1 ⟨rfl, hb1⟩
  go_wp2_with fail
  refine (l01Identity_any n _ h1 h5).mono ?_
  rintro e w2 ⟨rfl, hb2⟩
  have HS := Lib.hid (CS.start hb1 (by simpa using hb2))
  have hz1 := hb1.size
  clear hb1 hb2
  go_wp2_with fail
  go_loopw [7, 8, 9, 10] (fun vO vW vK i wr => ∃ (k : Nat) (ps : Met) (vs : List Value) (A : Addr) (c : Nat), i = .int .i64 k ∧ k ≤ ps.length ∧ vK = .slice (some A) ps.length c ∧ ps.length ≤ c ∧ CS w (ps.map (·.1)) (ps.map (·.2)) vs (sortM (ps.map (·.1))) vO vW A wr ∧ Good gens n ps ∧ Hid (allC gens (300 - k) k ps = clo gens n)) (fun _ _ _ i _ => 301 - (intOf i).toNat)
  case atStart => exact ⟨0, [(one n, [])], _, _, 1, rfl, by simp, rfl, by simp, HS.out, Good.start gens n, rfl⟩
  case round =>
    clear HS hz1
    obtain ⟨k, ps, vs, K, cK, rfl, hk, rfl, hcK, hN, hgd, HA⟩ := hrel
    have hlen := hgd.len
    obtain ⟨gF, cF, hvF⟩ := hN.o.some_ (by rw [List.length_map]; obtain ⟨qs, e, _⟩ := hgd.fst; rw [e]; simp)
    rw [List.length_map] at hvF
    subst hvF
    have HN := Lib.hid hN
    have Hgd := Lib.hid hgd
    clear hN hgd
    by_cases hlt : k < ps.length
    · have hki : (k : Int) < (ps.length : Int) := by omega
      have HA2 : Hid ((rowC (pm ps k).1 (pm ps k).2 (gens.drop 0) 0 ps).bind (allC gens (299 - k) (k + 1)) = clo gens n) := by
        have := HA.out
        rw [show 300 - k = (299 - k) + 1 by omega, allC, if_pos hlt] at this
        exact this
      obtain ⟨f, hf⟩ : ∃ f, f = (pm ps k).1 := ⟨_, rfl⟩
      obtain ⟨u, hu⟩ : ∃ u, u = (pm ps k).2 := ⟨_, rfl⟩
      rw [← hf, ← hu] at HA2
      have Hfu : Hid (pm ps k = (f, u)) := by show _ = _; rw [hf, hu]
      clear hf hu HA
      go_wp2_with fail
      go_loopw [11, 7, 8, 9] (fun i vO vW vK wr => ∃ (j : Nat) (ps : Met) (vs : List Value) (A : Addr) (c : Nat), i = .int .i64 j ∧ j ≤ L ∧ k < ps.length ∧ pm ps k = (f, u) ∧ vK = .slice (some A) ps.length c ∧ ps.length ≤ c ∧ CS w (ps.map (·.1)) (ps.map (·.2)) vs (sortM (ps.map (·.1))) vO vW A wr ∧ Good gens n ps ∧ Hid ((rowC f u (gens.drop j) j ps).bind (allC gens (299 - k) (k + 1)) = clo gens n)) (fun i _ _ _ _ => L - (intOf i).toNat)
      case atStart => exact ⟨0, ps, vs, K, cK, rfl, by omega, hlt, Hfu.out, rfl, hcK, HN.out, Hgd.out, HA2⟩
      case round =>
        clear HN Hgd HA2 Hfu hlt hki hk hlen hcK
        obtain ⟨j, ps, vs, K, cK, rfl, hj, hlt, hfu, rfl, hcK, hN, hgd, HA⟩ := hrel
        have hlen := hgd.len
        obtain ⟨gF, cF, hvF⟩ := hN.o.some_ (by rw [List.length_map]; omega)
        rw [List.length_map] at hvF
        subst hvF
        obtain ⟨gW, cW, hvW⟩ := hN.wd.some_ (by rw [hN.len, List.length_map]; omega)
        rw [hN.len, List.length_map] at hvW
        subst hvW
        have HN := Lib.hid hN
        have Hgd := Lib.hid hgd
        have Hfu := Lib.hid hfu
        clear hN hgd hfu
        by_cases hjl : j < L
        · obtain ⟨b, off, rfl, hbb, x0, x1, x2, x3, x4, x5⟩ := RdM.at_ (Rd.below Hx.out HN.out.bel) (k := j) (by rw [Hl.out]; exact hjl)
          obtain ⟨g, hg⟩ : ∃ g, g = gm gens j := ⟨_, rfl⟩
          rw [← hg] at x0 x1 x2 x3 x4 x5
          have hgm : g ∈ gens := by rw [hg, gm_eq (by rw [Hl.out]; exact hjl)]; exact List.getElem_mem _
          have hvg := (HG.out g hgm).1
          have hpg := (HG.out g hgm).2
          have hmf : (f, u) ∈ ps := by have := pm_mem hlt; rwa [Hfu.out] at this
          have hMf := Hgd.out.mon _ hmf
          have hvf := (hMf.ok h1 h5 HG.out).1
          have hpf := (hMf.ok h1 h5 HG.out).2
          have hvm : Valid (mul f g) := Valid.mul hvf hvg (by rw [hpf, hpg])
          have hEv : ∀ x ∈ sortM (ps.map (·.1)), Valid x := fun x hx => by
            rw [sortM_mem] at hx
            obtain ⟨q, hq, rfl⟩ := List.mem_map.1 hx
            exact ((Hgd.out.mon q hq).ok h1 h5 HG.out).1
          have HEv := Lib.hid hEv
          have hEl : (sortM (ps.map (·.1))).length = ps.length := by rw [sortM_length Hgd.out.nd, List.length_map]
          have HEl := Lib.hid hEl
          have Hg := Lib.hid hg
          have Hmf := Lib.hid hmf
          have ki : (k : Int) < (ps.length : Int) := by omega
          have kj : (j : Int) < (L : Int) := by omega
          have H6f : Hid (SixAt wr gF (k * 6) f) := by
            have h6 := RdM.at_ HN.out.o.rd (k := k) (by simpa using hlt)
            obtain ⟨b', off', e, _, h6⟩ := h6
            injection e with e
            injection e with e1 e2 _
            subst e1 e2
            have e3 : gm (ps.map (·.1)) k = f := by rw [← pm_fst hlt, Hfu.out]
            rw [Nat.zero_add, e3] at h6
            exact h6
          have hgl := H6f.out.lt
          have H6g : Hid (SixAt wr b (off + j * 6) g) := ⟨x0, x1, x2, x3, x4, x5⟩
          have hbl := H6g.out.lt
          clear x0 x1 x2 x3 x4 x5 hg hgm hpg hMf hpf hvg hmf hEv hEl
          go_wp2_with fail
          refine wp_region_box [] rfl (by kernel_rfl) (by kernel_rfl) (by kernel_rfl) (fun w' => Below wr.heap.size wr w') _
            (fun q => [.slice (some ⟨gF, 0, none⟩) ps.length cF, I k, .pointer (some ⟨gF, k * 6, none⟩), .agg (mc f), .slice (some ⟨b, off, none⟩) L c, I j, .pointer (some ⟨b, off + j * 6, none⟩), .agg (mc g), .agg (mc (mul f g)), .pointer (some ⟨q, 0, none⟩), undef])
            (by intro q; simp only [putAll, List.setIfInBounds_toArray, List.set_cons_succ, List.set_cons_zero]; rfl) (Below.refl _ _).drew 9 10 12 _ _ rfl rfl 31 (mc M0) (mc (mul f g)) (by kernel_rfl) (by kernel_rfl) (by decide) (fun _ _ => rfl) ?hop ?hal ?hst ?hQ
          case hop =>
            intro q
            refine FixBL.toL (fun w' w'' hS hb => hS.trans (hb.mono hS.size)) _ _ ?_
            refine ⟨.inr ?_, .inr ?_, .inr ?_, .inr ?_, .inr ?_, .inr ?_, .inr ?_, .inr ?_, .inr ?_, .inl rfl, .inl rfl, trivial⟩
            · (with_reducible refine FixB.of ?_ ?_; rfl; intro w' hS; have s0 := H6f.out.below hS (by omega); have s1 := H6g.out.below hS (by omega); clear hS; unfold Oper.wp; go_simp; first | done | exact Below.refl _ _)
            · (with_reducible refine FixB.of ?_ ?_; rfl; intro w' hS; have s0 := H6f.out.below hS (by omega); have s1 := H6g.out.below hS (by omega); clear hS; unfold Oper.wp; go_simp; first | done | exact Below.refl _ _)
            · (with_reducible refine FixB.of ?_ ?_; rfl; intro w' hS; have s0 := H6f.out.below hS (by omega); have s1 := H6g.out.below hS (by omega); clear hS; unfold Oper.wp; go_simp; first | done | exact Below.refl _ _)
            · (with_reducible refine FixB.of ?_ ?_; rfl; intro w' hS; have s0 := H6f.out.below hS (by omega); have s1 := H6g.out.below hS (by omega); clear hS; unfold Oper.wp; go_simp; first | done | exact Below.refl _ _)
            · (with_reducible refine FixB.of ?_ ?_; rfl; intro w' hS; have s0 := H6f.out.below hS (by omega); have s1 := H6g.out.below hS (by omega); clear hS; unfold Oper.wp; go_simp; first | done | exact Below.refl _ _)
            · (with_reducible refine FixB.of ?_ ?_; rfl; intro w' hS; have s0 := H6f.out.below hS (by omega); have s1 := H6g.out.below hS (by omega); clear hS; unfold Oper.wp; go_simp; first | done | exact Below.refl _ _)
            · (with_reducible refine FixB.of ?_ ?_; rfl; intro w' hS; have s0 := H6f.out.below hS (by omega); have s1 := H6g.out.below hS (by omega); clear hS; unfold Oper.wp; go_simp; first | done | exact Below.refl _ _)
            · (with_reducible refine FixB.of ?_ ?_; rfl; intro w' hS; have s0 := H6f.out.below hS (by omega); have s1 := H6g.out.below hS (by omega); clear hS; unfold Oper.wp; go_simp; first | done | exact Below.refl _ _)
            · (with_reducible refine FixB.of ?_ ?_; rfl; intro w' hS; have s3 := Lib.hid hS; unfold Oper.wp; clear hS; go_simp; refine (l01Times_any f g _ hvf).mono ?_; rintro e w1 ⟨rfl, hb⟩; exact ⟨rfl, hb⟩)
          case hal =>
            intro q
            refine ⟨rfl, fun w' hS => ?_⟩
            have s3 := Lib.hid hS
            clear hS
            unfold Oper.wp
            go_simp
            exact ⟨rfl, s3.out.alloc s3.out.size _⟩
          case hst =>
            intro q
            refine ⟨rfl, fun w' hS hq hB => ?_⟩
            have s3 := Lib.hid hS
            have d := hB.six
            have z := hB.fr6
            clear hS
            unfold Oper.wp
            go_simp
            exact ⟨below_st6 s3.out hq _, hB.st6 _, below_st6 (Below.refl _ _) hq _⟩
          case hQ =>
            intro q wb hS hq hB hbel
            clear hS
            have hqlt := hB.lt
            have hszb := hbel.size
            have HNb := Lib.hid (HN.out.below hbel)
            obtain ⟨m, hm⟩ : ∃ m, m = mul f g := ⟨_, rfl⟩
            rw [← hm] at hvm hB
            have Hm := Lib.hid hm
            have H6m : Hid (Six wb q m) := hB.six
            have hqF : gF < q := by have := (HN.out.o.lt gF rfl).2; omega
            have hqW : gW < q := by have := (HN.out.wd.lt gW rfl).2; omega
            obtain ⟨d0, d1, d2, d3, d4, d5⟩ := hB.six
            have hgj : gens.drop j = gm gens j :: gens.drop (j + 1) := drop_cons (by rw [Hl.out]; exact hjl)
            have Hgj : Hid (gens.drop j = g :: gens.drop (j + 1)) := by show _ = _; rw [hgj, ← Hg.out]
            have b0 := plOf_bd (sortM (ps.map (·.1))) m
            rw [HEl.out] at b0
            clear hgj hbel hB HN H6f H6g hm
            go_wp2_with fail
            refine (l02Find_any (some K) ps.length cK (sortM (ps.map (·.1))) m _ HNb.out.k HEl.out (by omega) (sortM_asc _) HEv.out hvm).mono ?_
            rintro e wc ⟨rfl, hbc⟩
            have HNc := Lib.hid (HNb.out.below hbc)
            have HMc : Hid (Six wc q m) := H6m.out.below hbc hqlt
            have hszc := hbc.size
            clear hbc HNb H6m d0 d1 d2 d3 d4 d5
            by_cases hin : m ∈ ps.map (·.1)
            · have hin2 : m ∈ sortM (ps.map (·.1)) := sortM_mem.2 hin
              obtain ⟨x, hx⟩ : ∃ x : Nat, plOf (sortM (ps.map (·.1))) m - 1 = (x : Int) := ⟨ix (sortM (ps.map (·.1))) m, by rw [plOf_in hin2]; omega⟩
              rw [hx]
              have HA4 : Hid ((rowC f u (gens.drop (j + 1)) (j + 1) ps).bind (allC gens (299 - k) (k + 1)) = clo gens n) := by
                have := HA.out
                rw [Hgj.out, rowC_in (by rw [← Hm.out]; exact hin)] at this
                exact this
              have hx0 : (0 : Int) ≤ (x : Int) := by omega
              clear hin hin2 hx b0
              go_wp2
              go_roundw
              case rel => exact ⟨j + 1, ps, vs, K, cK, by go_num, by omega, hlt, Hfu.out, rfl, hcK, HNc.out, Hgd.out, HA4⟩
              case measure => simp [intOf]; omega
            · have hx : plOf (sortM (ps.map (·.1))) m - 1 = -1 := by rw [plOf_out (fun h => hin (sortM_mem.1 h))]; rfl
              rw [hx]
              have Hin := Lib.hid hin
              clear hin hx b0
              by_cases h300 : ps.length = 300
              · have Hcn : Hid (clo gens n = none) := by
                  have := HA.out
                  rw [Hgj.out, rowC_full (by rw [← Hm.out]; exact Hin.out) h300] at this
                  exact this.symm
                have h301 : (ps.length : Int) = 300 := by omega
                have Hcl : Hid ((clo gens n).isSome = false) := by show _ = _; rw [Hcn.out]; rfl
                go_wp2_with fail
                go_ret3
                exact ⟨_, _, by rw [Hcl.out] <;> rfl, HNc.out.bel, fun ps h => (by rw [Hcn.out] at h; cases h)⟩
              · have h301 : ¬ (ps.length : Int) = 300 := by omega
                obtain ⟨d0, d1, d2, d3, d4, d5⟩ := HMc.out
                have hqc : q < wc.heap.size := HMc.out.lt
                have hlm : (ps.map (·.1)).length = ps.length := by simp
                have Hlm := Lib.hid hlm
                have hk2 : k < (ps.map (·.2)).length := by simpa using hlt
                obtain ⟨Au, cu, hvu, _⟩ := (HNc.out.ws k hk2).form
                rw [getD_snd, Hfu.out] at hvu
                simp only at hvu
                have Hvu := Lib.hid hvu
                have hul : u.length ≤ k := by
                  have := Hgd.out.wl k hlt
                  rw [Hfu.out] at this
                  exact this
                clear hlm hvu
                go_wp2_with (at_builtin; refine wpList_pushM rfl (.tmp 49) (.tmp 51) rfl w.heap.size (.slice (some ⟨gF, 0, none⟩) ps.length cF) (ps.map (·.1)) rfl (HNc.out.o.alloc _) ps.length Hlm.out wc.heap.size 1 m rfl (Blk.six (Blk.new _ _ _)) (by omega) (by have := HNc.out.bel.size; simp; omega) (wc.heap.size + 1) (by simp) ?_; intro g3 c3 wd ho3 hgr3 hor3 hlt3; have HN3 := Lib.hid ((HNc.out.below ((Below.refl _ _).alloc (Nat.le_refl _) (.cells (mc m) 31))).pushO ho3 hgr3 (by rcases hor3 with h | h; exact .inl h; right; simp; omega)); have H6d : Hid (Six wd q m) := (HMc.out.alloc (.cells (mc m) 31)).grown hgr3 (fun e => by have := own_eq e.symm; omega); have hz3 := hgr3.size; simp only [World.size_alloc] at hz3; clear ho3 hgr3 hor3 HNc HMc d0 d1 d2 d3 d4 d5; have hcw := (RdV.at_ HN3.out.wd.rd (k := k) (by rw [HN3.out.len]; exact hk2)); rw [Hvu.out] at hcw; have hcw2 : wd.cell? ⟨gW, k, none⟩ = some (.slice Au u.length cu) := (by obtain ⟨b', o', e, _, h⟩ := hcw; injection e with e; injection e with e1 e2 _; subst e1 e2; rw [Nat.zero_add] at h; exact h); clear hcw)
                have Hu3 : Hid (OwI 2 wd w.heap.size (.slice Au u.length cu) u) := by
                  have h := HN3.out.ws k hk2
                  rw [getD_snd, Hfu.out, Hvu.out] at h
                  exact h
                have Hu4 : Hid (RdI wd wd.heap.size Au u) := by
                  obtain ⟨A', c', e, h⟩ := Hu3.out.form
                  injection e with e1 _ e2
                  subst e1 e2
                  exact h
                refine (l01Own_any Au u.length cu u _ Hu3.out.nilA Hu4.out rfl (by omega)).mono ?_
                rintro e we ⟨v4, rfl, ho4, hb4⟩
                obtain ⟨A4, c4, rfl, _⟩ := ho4.form
                have hz4 := hb4.size
                have Ho4 := Lib.hid ho4
                have Hb4 := Lib.hid hb4
                have hz0 := HN3.out.bel.size
                clear ho4 hb4 Hu3 Hu4 hcw2
                have Hvl : Hid (vs.length = ps.length) := by show _ = _; rw [HN3.out.len, List.length_map]
                go_wp2_with (at_builtin; first | (refine wpList_pushI rfl (.tmp 58) (.tmp 60) rfl wd.heap.size (.slice A4 u.length c4) u rfl (Ho4.out.alloc _) we.heap.size 1 j rfl ((Blk.new _ _ _).cell 0) (by omega) (by simp; omega) (we.heap.size + 1) (by simp) ?_; intro g5 c5 wf ho5 hgr5 hor5 hlt5; have Hb5 := Lib.hid ((Ho4.out.alloc (.cells #[I j] 2)).bel (Hb4.out.alloc hz4 _) hgr5 (Nat.le_refl _) (by simp; omega)); have hz5 := hgr5.size; simp only [World.size_alloc] at hz5; have Ho5 := Lib.hid ho5; clear ho5 hgr5 hor5 Ho4 Hb4; have HN5 := Lib.hid (HN3.out.below Hb5.out); have H6e : Hid (Six wf q m) := H6d.out.below Hb5.out (by omega); clear H6d) | (refine wpList_pushV rfl (.tmp 53) (.tmp 62) rfl w.heap.size (.slice (some ⟨gW, 0, none⟩) ps.length cW) vs rfl (HN5.out.wd.alloc _) ps.length Hvl.out wf.heap.size 1 (.slice (some ⟨g5, 0, none⟩) (u.length + 1) c5) rfl rfl ((Blk.new _ _ _).cell 0) (by omega) (by simp; omega) (wf.heap.size + 1) (by simp) ?_; intro g6 c6 wg ho6 hgr6 hor6 hlt6; have HN6 := Lib.hid ((HN5.out.below ((Below.refl _ _).alloc (Nat.le_refl _) (.cells #[.slice (some ⟨g5, 0, none⟩) (u.length + 1) c5] 39))).pushW ho6 hgr6 (by rcases hor6 with h | h; exact .inl h; right; simp; omega) ((Ho5.out.mono (by omega)).alloc _) (fun g' hg' => (by have h5' := (Ho5.out.lt g' hg').1; exact ⟨fun e => by have := own_eq e; omega, fun e => by have := own_eq e; have := (HN3.out.wd.lt gW rfl).2; omega⟩))); have H6h : Hid (Six wg q m) := (H6e.out.alloc (.cells #[.slice (some ⟨g5, 0, none⟩) (u.length + 1) c5] 39)).grown hgr6 (fun e => by have := own_eq e.symm; omega); have hz6 := hgr6.size; simp only [World.size_alloc] at hz6; clear ho6 hgr6 hor6 HN5 H6e; obtain ⟨d0, d1, d2, d3, d4, d5⟩ := H6h.out))
                refine (l01Put_any K ps.length cK (sortM (ps.map (·.1))) m _ HN6.out.k HEl.out hcK (by omega) (sortM_asc _) HEv.out hvm).mono ?_
                rintro e wh ⟨K7, c7, rfl, hc7, hr7, hk7, hb7⟩
                have hins : insM m (sortM (ps.map (·.1))) = sortM ((ps ++ [(m, u ++ [(j : Int)])]).map (·.1)) := by
                  rw [List.map_append, ← sortM_snoc]; rfl
                have hl7 : (insM m (sortM (ps.map (·.1)))).length = (ps ++ [(m, u ++ [(j : Int)])]).length := by
                  rw [insM_length (fun h => Hin.out (sortM_mem.1 h)), HEl.out]; simp
                have HN7 : Hid (CS w ((ps ++ [(m, u ++ [(j : Int)])]).map (·.1)) ((ps ++ [(m, u ++ [(j : Int)])]).map (·.2)) (vs ++ [.slice (some ⟨g5, 0, none⟩) (u.length + 1) c5]) (sortM ((ps ++ [(m, u ++ [(j : Int)])]).map (·.1))) (.slice (some ⟨g3, 0, none⟩) (ps.length + 1) c3) (.slice (some ⟨g6, 0, none⟩) (ps.length + 1) c6) K7 wh) := by
                  have h := HN6.out.putK hb7 hk7 hr7 (by rw [hl7]; simp)
                  have e1 : (ps ++ [(m, u ++ [(j : Int)])]).map (·.1) = ps.map (·.1) ++ [m] := by simp
                  have e2 : (ps ++ [(m, u ++ [(j : Int)])]).map (·.2) = ps.map (·.2) ++ [u ++ [(j : Int)]] := by simp
                  rw [hins, e1] at h
                  show CS _ _ _ _ _ _ _ _ _
                  rw [e2, e1]
                  exact h
                rw [hl7] at hc7 ⊢
                have Hgd2 := Lib.hid (Hgd.out.add (f := f) (u := u) (k := j) Hmf.out (by rw [Hl.out]; exact hjl) (by rw [← Hg.out, ← Hm.out]; exact Hin.out) h300)
                rw [← Hg.out, ← Hm.out] at Hgd2
                have HA5 : Hid ((rowC f u (gens.drop (j + 1)) (j + 1) (ps ++ [(m, u ++ [(j : Int)])])).bind (allC gens (299 - k) (k + 1)) = clo gens n) := by
                  have := HA.out
                  rw [Hgj.out, rowC_new (by rw [← Hm.out]; exact Hin.out) h300, ← Hm.out] at this
                  exact this
                have Hfu2 : Hid (pm (ps ++ [(m, u ++ [(j : Int)])]) k = (f, u)) := by show _ = _; rw [pm_app hlt]; exact Hfu.out
                have Hc7 := Lib.hid hc7
                clear hr7 hk7 hb7 hins hl7 hc7 HN6 HN3 H6h d0 d1 d2 d3 d4 d5 Hgd HA Hmf Hfu
                go_wp2_with fail
                go_roundw
                case rel => exact ⟨j + 1, ps ++ [(m, u ++ [(j : Int)])], _, K7, c7, by go_num, by omega, by simp; omega, Hfu2.out, by simp, Hc7.out, HN7.out, Hgd2.out, HA5⟩
                case measure => simp [intOf]; omega
        · obtain rfl : j = L := by omega
          have HA3 : Hid (allC gens (300 - (k + 1)) (k + 1) ps = clo gens n) := by
            have := HA.out
            rw [List.drop_eq_nil_of_le (by rw [Hl.out]; exact Nat.le_refl _), rowC_nil] at this
            rw [show 300 - (k + 1) = 299 - k by omega]
            exact this
          go_wp2_with fail
          go_roundw
          case rel => exact ⟨k + 1, ps, vs, K, cK, by go_num, by omega, rfl, hcK, HN.out, Hgd.out, HA3⟩
          case measure => simp [intOf]; omega
    · have Hcl : Hid (clo gens n = some ps) := by
        have := HA.out
        rw [allC_done' hlt] at this
        exact this.symm
      have Hsm : Hid ((clo gens n).isSome = true) := by show _ = _; rw [Hcl.out]; rfl
      obtain ⟨gW, cW, hvW⟩ := HN.out.wd.some_ (by rw [HN.out.len, List.length_map]; obtain ⟨qs, e, _⟩ := Hgd.out.fst; rw [e]; simp)
      rw [HN.out.len, List.length_map] at hvW
      subst hvW
      have hki : ¬ (k : Int) < (ps.length : Int) := by omega
      have hkk : (ps.length : Int) ≤ (k : Int) := by omega
      go_wp2_with fail
      go_ret3
      refine ⟨_, _, by rw [Hsm.out] <;> rfl, HN.out.bel, fun ps' h => ?_⟩
      rw [Hcl.out] at h
      injection h with h
      subst h
      exact ⟨HN.out.o, vs, HN.out.wd, by rw [HN.out.len, List.length_map], fun j hj => by rw [← getD_snd]; exact HN.out.ws j (by simpa using hj)⟩
end Go.Proofs.YtchjegojcpbfpaaGreat

namespace Go.Proofs
open Go.Shelf
def Tryz.sortL_ren : Go.Shelf.Ren := ⟨fun | 6 => 108 | 15 => 125 | 14 => 124 | 28 => 139 | 29 => 140 | 20 => 131 | 21 => 132 | 22 => 133 | 23 => 134 | 24 => 135 | 25 => 136 | 26 => 137 | 27 => 138 | 46 => 142 | 47 => 143 | 48 => 144 | 49 => 145 | 50 => 146 | 57 => 156 | n => n, fun | 22 => 24 | 24 => 31 | 25 => 119 | 3 => 3 | 39 => 82 | 0 => 0 | 53 => 113 | 55 => 103 | 4 => 4 | 46 => 136 | 45 => 135 | 50 => 140 | 5 => 5 | 9 => 9 | 66 => 143 | 70 => 147 | 76 => 155 | 77 => 156 | n => n, fun | n => n⟩
theorem Tryz.sortL : Go.Proofs.SlLaysF0.n6 Tryz.prog Tryz.sortL_ren := {
  mixed := by kernel_rfl
  f6 := ⟨Tryz.f108.name, by decide, Tryz.func108.trans (congrArg some (by kernel_rfl))⟩
  f14 := ⟨Tryz.f124.name, by decide, Tryz.func124.trans (congrArg some (by kernel_rfl))⟩
  f15 := Tryz.func125.trans (congrArg some (by kernel_rfl))
  f20 := ⟨Tryz.f131.name, by decide, Tryz.func131.trans (congrArg some (by kernel_rfl))⟩
  f21 := ⟨Tryz.f132.name, by decide, Tryz.func132.trans (congrArg some (by kernel_rfl))⟩
  f22 := ⟨Tryz.f133.name, by decide, Tryz.func133.trans (congrArg some (by kernel_rfl))⟩
  f23 := ⟨Tryz.f134.name, by decide, Tryz.func134.trans (congrArg some (by kernel_rfl))⟩
  f24 := ⟨Tryz.f135.name, by decide, Tryz.func135.trans (congrArg some (by kernel_rfl))⟩
  f25 := ⟨Tryz.f136.name, by decide, Tryz.func136.trans (congrArg some (by kernel_rfl))⟩
  f26 := ⟨Tryz.f137.name, by decide, Tryz.func137.trans (congrArg some (by kernel_rfl))⟩
  f27 := ⟨Tryz.f138.name, by decide, Tryz.func138.trans (congrArg some (by kernel_rfl))⟩
  f28 := Tryz.func139.trans (congrArg some (by kernel_rfl))
  f29 := Tryz.func140.trans (congrArg some (by kernel_rfl))
  f46 := ⟨Tryz.f142.name, by decide, Tryz.func142.trans (congrArg some (by kernel_rfl))⟩
  f47 := Tryz.func143.trans (congrArg some (by kernel_rfl))
  f48 := Tryz.func144.trans (congrArg some (by kernel_rfl))
  f49 := ⟨Tryz.f145.name, by decide, Tryz.func145.trans (congrArg some (by kernel_rfl))⟩
  f50 := ⟨Tryz.f146.name, by decide, Tryz.func146.trans (congrArg some (by kernel_rfl))⟩
  f57 := ⟨Tryz.f156.name, by decide, Tryz.func156.trans (congrArg some (by kernel_rfl))⟩
  t0 := Tryz.underlying0
  a0 := Tryz.isAgg0
  z0 := Tryz.sizeOf0
  v0 := Tryz.zeroValue0
  t3 := Tryz.underlying3
  a3 := Tryz.isAgg3
  z3 := Tryz.sizeOf3
  v3 := Tryz.zeroValue3
  t4 := Tryz.underlying4
  a4 := Tryz.isAgg4
  z4 := Tryz.sizeOf4
  v4 := Tryz.zeroValue4
  t5 := Tryz.underlying5
  a5 := Tryz.isAgg5
  z5 := Tryz.sizeOf5
  v5 := Tryz.zeroValue5
  t9 := Tryz.underlying9
  a9 := Tryz.isAgg9
  z9 := Tryz.sizeOf9
  v9 := Tryz.zeroValue9
  t22 := Tryz.underlying24
  a22 := Tryz.isAgg24
  z22 := Tryz.sizeOf24
  v22 := Tryz.zeroValue24
  t25 := Tryz.underlying119
  a25 := Tryz.isAgg119
  z25 := Tryz.sizeOf119
  v25 := Tryz.zeroValue119
  t39 := Tryz.underlying82
  a39 := Tryz.isAgg82
  z39 := Tryz.sizeOf82
  v39 := Tryz.zeroValue82
  t45 := Tryz.underlying135
  a45 := Tryz.isAgg135
  z45 := Tryz.sizeOf135
  v45 := Tryz.zeroValue135
  t46 := Tryz.underlying136
  a46 := Tryz.isAgg136
  z46 := Tryz.sizeOf136
  v46 := Tryz.zeroValue136
  t50 := Tryz.underlying140
  a50 := Tryz.isAgg140
  z50 := Tryz.sizeOf140
  v50 := Tryz.zeroValue140
  t53 := Tryz.underlying113
  a53 := Tryz.isAgg113
  z53 := Tryz.sizeOf113
  v53 := Tryz.zeroValue113
  t55 := Tryz.underlying103
  a55 := Tryz.isAgg103
  z55 := Tryz.sizeOf103
  v55 := Tryz.zeroValue103
  t66 := Tryz.underlying143
  a66 := Tryz.isAgg143
  z66 := Tryz.sizeOf143
  v66 := Tryz.zeroValue143
  t70 := Tryz.underlying147
  a70 := Tryz.isAgg147
  z70 := Tryz.sizeOf147
  v70 := Tryz.zeroValue147
  t76 := Tryz.underlying155
  a76 := Tryz.isAgg155
  z76 := Tryz.sizeOf155
  v76 := Tryz.zeroValue155
  t77 := Tryz.underlying156
  a77 := Tryz.isAgg156
  z77 := Tryz.sizeOf156
  v77 := Tryz.zeroValue156 }
end Go.Proofs

namespace Go.Proofs.YtchjegojcpbfpaaGreat
open Go.RowKit
set_option maxRecDepth 100000
instance : Inhabited M := ⟨M0⟩
abbrev encM (m : M) : List Value := (mc m).toList
theorem ltM (x y : M) : ltOf cmpM x y = lessM x y := by
  have := cmpM_bd x y
  unfold ltOf lessM
  rw [Bool.eq_iff_iff, decide_eq_true_eq, decide_eq_true_eq]
  omega
theorem lessM_ntrans {x y z : M} (h1 : lessM x y = false) (h2 : lessM y z = false) : lessM x z = false := by
  rw [Bool.eq_false_iff]
  intro h
  by_cases e : x = y
  · subst e; rw [h] at h2; cases h2
  · have h3 := (lessM_tot e).resolve_left (by rw [h1]; simp)
    have := lessM_trans h3 h
    rw [h2] at this; cases this
theorem swoM : Sort.SWO (ltOf cmpM) :=
  ⟨fun x => by rw [ltM]; exact lessM_irr x, fun x y z h1 h2 => by rw [ltM] at *; exact lessM_trans h1 h2, fun x y z h1 h2 => by rw [ltM] at *; exact lessM_ntrans h1 h2⟩
theorem totM (x y : M) (h1 : ltOf cmpM x y = false) (h2 : ltOf cmpM y x = false) : x = y := by
  rw [ltM] at h1 h2
  refine Classical.byContradiction fun hne => ?_
  rcases lessM_tot hne with h | h
  · rw [h1] at h; cases h
  · rw [h2] at h; cases h
theorem merge_sortM {ms : List M} (hn : ms.Nodup) : (ms.mergeSort fun x y => !ltOf cmpM y x) = sortM ms := by
  have hp := List.mergeSort_perm ms fun x y => !ltOf cmpM y x
  have hs := List.pairwise_mergeSort (le := fun x y => !ltOf cmpM y x)
    (fun a b c h1 h2 => by
      simp only [ltM, Bool.not_eq_true'] at *
      exact lessM_ntrans h2 h1)
    (fun a b => by
      simp only [ltM, Bool.or_eq_true, Bool.not_eq_true']
      by_cases h : lessM b a = true
      · right; exact lessM_asym h
      · left; simpa using h) ms
  refine (sortM_eq ?_ fun z => hp.mem_iff).symm
  have hnd := hp.nodup_iff.2 hn
  refine (hs.and hnd).imp fun {a b} h => ?_
  obtain ⟨h1, h2⟩ := h
  simp only [ltM, Bool.not_eq_true'] at h1
  exact (lessM_tot h2).resolve_right (by rw [h1]; simp)
theorem grows_of {w w' : World} (hb : Below w.heap.size w w') (hd : w.drawn ≤ w'.drawn) : ∃ q os, w' = Sort.grow (w.drewN q) os := by
  refine ⟨w'.drawn - w.drawn, w'.heap.extract w.heap.size w'.heap.size, ?_⟩
  obtain ⟨h1, t1, d1, o1, p1⟩ := w
  obtain ⟨h2, t2, d2, o2, p2⟩ := w'
  obtain ⟨e1, e2, e3, e4, e5⟩ := hb
  simp only at e1 e2 e3 e4 e5 hd
  subst e1 e2 e3
  have e6 : h1 ++ h2.extract h1.size h2.size = h2 := by
    apply Array.ext_getElem?
    intro k
    by_cases hk : k < h1.size
    · rw [Array.getElem?_append_left hk]; exact (e5 k hk).symm
    · rw [Array.getElem?_append_right (by omega), Array.getElem?_extract]
      by_cases hk2 : k < h2.size
      · rw [if_pos (by omega)]; congr 1; omega
      · rw [if_neg (by omega), Array.getElem?_eq_none (by omega)]
  unfold Sort.grow World.drewN
  simp only [e6]
  congr 1
  omega
theorem compareL_w (f g : M) (b d : Nat) (w : World) (hx : Six w b f) (hy : Six w d g) :
    Calls Tryz.prog 71 #[.slice (some ⟨b, 1, none⟩) 5 5, .slice (some ⟨d, 1, none⟩) 5 5] w fun e w' => e = .returned (I (cmpL (imgs f 5) (imgs g 5))) ∧ w = w' :=
  compareL_any _ _ 5 5 5 5 (imgs f 5) (imgs g 5) w (rd_six hx hx.lt) (rd_six hy hy.lt) (imgs_length _ _) (imgs_length _ _) (by omega) (by omega)
theorem compareM_grow (f g : M) (w : World) :
    Calls Tryz.prog 109 #[.agg (mc f), .agg (mc g)] w fun e w' => e = .returned (I (cmpM f g)) ∧ Below w.heap.size w w' ∧ w.drawn ≤ w'.drawn := by
  have sl0 := slc0 w.heap.size
  have sl1 := slc0 (w.heap.size + 1)
  go_enter Tryz.func109, Tryz.ntmps109
  go_wp2_with fail
  refine wp_region_boxG (fun q => .slice (some ⟨q, 0, none⟩) 2 2) [] rfl (by kernel_rfl) (by kernel_rfl) (by kernel_rfl) (fun w' => Six w' w.heap.size f ∧ Six w' (w.heap.size + 1) g ∧ Below w.heap.size w w' ∧ w.drawn ≤ w'.drawn) _
    (fun q => [.pointer (some ⟨w.heap.size, 0, none⟩), I f.p, .pointer (some ⟨w.heap.size + 1, 0, none⟩), I g.p, I (cmpI f.p g.p), .pointer (some ⟨w.heap.size, 1, none⟩), .slice (some ⟨w.heap.size, 1, none⟩) 5 5, .pointer (some ⟨w.heap.size + 1, 1, none⟩), .slice (some ⟨w.heap.size + 1, 1, none⟩) 5 5, I (cmpL (imgs f 5) (imgs g 5)), .slice (some ⟨q, 0, none⟩) 2 2, I (cmpM f g), I (cmpM f g)])
    (by intro q; simp only [putAll, List.setIfInBounds_toArray, List.set_cons_succ, List.set_cons_zero]; rfl) ?hS 10 11 15 _ _ rfl rfl 3 #[I (cmpI f.p g.p), I (cmpL (imgs f 5) (imgs g 5))] #[I (cmpI f.p g.p), I (cmpL (imgs f 5) (imgs g 5))] (by kernel_rfl) (by kernel_rfl) (by decide) (fun _ _ => rfl) ?hop ?hal ?hst ?hQ
  case hS => exact ⟨Six.alloc (Blk.six (Blk.new w _ _)) _, Blk.six (Blk.new' _ _ _ (by simp)), by (repeat (first | with_reducible assumption | with_reducible exact Below.refl _ _ | with_reducible refine Below.setCell ?_ (by first | omega | (simp <;> omega)) _ | with_reducible refine Below.alloc ?_ (by first | omega | (simp <;> omega)) _ | with_reducible refine Below.drew ?_ | with_reducible refine Below.drewN ?_ _)), Nat.le_succ _⟩
  case hop =>
    intro q
    refine ⟨.inr ?_, .inr ?_, .inr ?_, .inr ?_, .inr ?_, .inr ?_, .inr ?_, .inr ?_, .inr ?_, .inr ?_, .inl rfl, .inl rfl, .inr ?_, trivial⟩
    · (with_reducible refine Fix.of ?_ ?_; rfl; intro w' hS; have s0 := hS.1; have s1 := hS.2.1; have s2 := hS.2.2; unfold Oper.wp; go_simp; first | exact ⟨⟨hS.1, hS.2.1⟩, Below.refl _ _⟩ | exact ⟨hS.1, hS.2.1, Below.refl _ _⟩)
    · (with_reducible refine Fix.of ?_ ?_; rfl; intro w' hS; have s0 := hS.1; have s1 := hS.2.1; have s2 := hS.2.2; unfold Oper.wp; go_simp; first | exact ⟨⟨hS.1, hS.2.1⟩, Below.refl _ _⟩ | exact ⟨hS.1, hS.2.1, Below.refl _ _⟩)
    · (with_reducible refine Fix.of ?_ ?_; rfl; intro w' hS; have s0 := hS.1; have s1 := hS.2.1; have s2 := hS.2.2; unfold Oper.wp; go_simp; first | exact ⟨⟨hS.1, hS.2.1⟩, Below.refl _ _⟩ | exact ⟨hS.1, hS.2.1, Below.refl _ _⟩)
    · (with_reducible refine Fix.of ?_ ?_; rfl; intro w' hS; have s0 := hS.1; have s1 := hS.2.1; have s2 := hS.2.2; unfold Oper.wp; go_simp; first | exact ⟨⟨hS.1, hS.2.1⟩, Below.refl _ _⟩ | exact ⟨hS.1, hS.2.1, Below.refl _ _⟩)
    · (with_reducible refine Fix.of ?_ ?_; rfl; intro w' hS; have s3 := Lib.hid hS; unfold Oper.wp; clear hS; go_simp; refine (compareI_any f.p g.p _).mono ?_; rintro e w1 ⟨rfl, rfl⟩; exact ⟨rfl, s3.out, Below.refl _ _⟩)
    · (with_reducible refine Fix.of ?_ ?_; rfl; intro w' hS; have s0 := hS.1; have s1 := hS.2.1; have s2 := hS.2.2; unfold Oper.wp; go_simp; first | exact ⟨⟨hS.1, hS.2.1⟩, Below.refl _ _⟩ | exact ⟨hS.1, hS.2.1, Below.refl _ _⟩)
    · (with_reducible refine Fix.of ?_ ?_; rfl; intro w' hS; have s0 := hS.1; have s1 := hS.2.1; have s2 := hS.2.2; unfold Oper.wp; go_simp; first | exact ⟨⟨hS.1, hS.2.1⟩, Below.refl _ _⟩ | exact ⟨hS.1, hS.2.1, Below.refl _ _⟩)
    · (with_reducible refine Fix.of ?_ ?_; rfl; intro w' hS; have s0 := hS.1; have s1 := hS.2.1; have s2 := hS.2.2; unfold Oper.wp; go_simp; first | exact ⟨⟨hS.1, hS.2.1⟩, Below.refl _ _⟩ | exact ⟨hS.1, hS.2.1, Below.refl _ _⟩)
    · (with_reducible refine Fix.of ?_ ?_; rfl; intro w' hS; have s0 := hS.1; have s1 := hS.2.1; have s2 := hS.2.2; unfold Oper.wp; go_simp; first | exact ⟨⟨hS.1, hS.2.1⟩, Below.refl _ _⟩ | exact ⟨hS.1, hS.2.1, Below.refl _ _⟩)
    · (with_reducible refine Fix.of ?_ ?_; rfl; intro w' hS; have s3 := Lib.hid hS; unfold Oper.wp; clear hS; go_simp; refine (compareL_w f g _ _ _ s3.out.1 s3.out.2.1).mono ?_; rintro e w1 ⟨rfl, rfl⟩; exact ⟨rfl, s3.out, Below.refl _ _⟩)
    · (with_reducible refine Fix.of ?_ ?_; rfl; intro w' hS; have s0 := hS.1; have s1 := hS.2.1; have s2 := hS.2.2; unfold Oper.wp; go_simp; first | exact ⟨⟨hS.1, hS.2.1⟩, Below.refl _ _⟩ | exact ⟨hS.1, hS.2.1, Below.refl _ _⟩)
  case hal =>
    intro q
    refine ⟨rfl, fun w' hS => ?_⟩
    have s3 := Lib.hid hS
    clear hS
    unfold Oper.wp
    go_simp
    exact ⟨s3.out.1.alloc _, s3.out.2.1.alloc _, s3.out.2.2.1.alloc s3.out.2.2.1.size _, s3.out.2.2.2⟩
  case hst =>
    intro q
    refine ⟨rfl, fun w' hS hq hB => ?_⟩
    have s3 := Lib.hid hS
    clear hS
    unfold Oper.wp
    go_simp
    refine (or2_any q 2 _ _ _ (hB.cell 0) (hB.cell 1)).mono ?_
    rintro e w1 ⟨rfl, rfl⟩
    exact ⟨rfl, s3.out, hB, Below.refl _ _⟩
  case hQ =>
    intro q w' hS hq hB hbel
    have Hbel := Lib.hid hS.2.2
    clear hq hB hS hbel
    go_wp2
    go_ret
    exact ⟨rfl, Hbel.out⟩
theorem Blk.setCells {g : Nat} {t : TypeId} : ∀ (L : List Value) (o : Nat) (w : World) (cs : Array Value), Blk w g t cs → o + L.length ≤ cs.size →
    ∃ cs', Blk (w.setCells g o L) g t cs' ∧ cs'.size = cs.size ∧ (∀ j, j < o → cs'[j]? = cs[j]?) ∧ ∀ j, j < L.length → cs'[o + j]? = L[j]?
  | [], o, w, cs, h, _ => ⟨cs, h, rfl, fun _ _ => rfl, fun j hj => by simp at hj⟩
  | v :: r, o, w, cs, h, hl => by
    simp only [List.length_cons] at hl
    obtain ⟨cs', h1, h2, h3, h4⟩ := Blk.setCells r (o + 1) _ _ (h.set_ o v) (by simp; omega)
    refine ⟨cs', h1, by simpa using h2, fun j hj => ?_, fun j hj => ?_⟩
    · rw [h3 j (by omega), Array.getElem?_setIfInBounds_ne (by omega)]
    · match j, hj with
      | 0, _ =>
        rw [Nat.add_zero, h3 o (by omega)]
        have : o < cs.size := by omega
        simp [this]
      | j + 1, hj =>
        simp only [List.length_cons] at hj
        have := h4 j (by omega)
        rw [show o + (j + 1) = o + 1 + j by omega, this]
        rfl
theorem heap_setCells_ne {g k : Nat} (hk : k ≠ g) : ∀ (L : List Value) (o : Nat) (w : World), (w.setCells g o L).heap[k]? = w.heap[k]?
  | [], _, _ => rfl
  | v :: r, o, w => (heap_setCells_ne hk r (o + 1) _).trans (Below.heap_setCell w ⟨g, o, none⟩ v k hk)
theorem setCells_same (g : Nat) : ∀ (L : List Value) (o : Nat) (w : World), (w.setCells g o L).os = w.os ∧ (w.setCells g o L).tape = w.tape ∧ (w.setCells g o L).output = w.output ∧ (w.setCells g o L).heap.size = w.heap.size
  | [], _, _ => ⟨rfl, rfl, rfl, rfl⟩
  | v :: r, o, w => by
    obtain ⟨a, b, c, d⟩ := setCells_same g r (o + 1) (w.setCell ⟨g, o, none⟩ v)
    exact ⟨a, b, c, d.trans (by simp [World.setCell])⟩
theorem sort_any (g n c B : Nat) (ms : List M) (w : World) (ho : OwM 31 w B (.slice (some ⟨g, 0, none⟩) n c) ms) (hn : ms.length = n) (hnd : ms.Nodup) (hb : n < 1073741824) :
    Calls Tryz.prog 108 #[.slice (some ⟨g, 0, none⟩) n c, .func (.func 109) #[] #[]] w fun e w' => e = .returned (.tuple #[]) ∧ OwM 31 w' B (.slice (some ⟨g, 0, none⟩) n c) (sortM ms) ∧ w.grownBy w' (some g) := by
  subst hn
  have eg : ∀ args w, (callFunc 109 args).run Tryz.prog w = .ok (.enter 109 args) w := enters_of Tryz.func109 (by kernel_rfl) rfl
  obtain ⟨cur, hBg, hblk, hcap, hcm, hcs, htk⟩ : ∃ cur, B ≤ g ∧ Blk w g 31 cur ∧ ms.length ≤ c ∧ c ≤ maxLen ∧ cur.size = c * 6 ∧ cur.toList.take (ms.length * 6) = mcs ms := by
    rcases ho.2 with ⟨he, _⟩ | ⟨g', cap, cur, he, hg, hh, h1, h2, h3, h4⟩
    · cases he
    · injection he with e1 _ e3
      injection e1 with e1
      injection e1 with e1 _
      subst e1 e3
      exact ⟨cur, hg, hh, h1, h2, h3, h4⟩
  have hfl : ∀ L : List M, (Sort.flatK encM 6 L.toArray).toList = mcs L := by
    intro L
    refine List.ext_getElem? fun j => ?_
    by_cases hj : j < L.length * 6
    · have h6 : j % 6 < 6 := Nat.mod_lt _ (by decide)
      have hk : j / 6 < L.length := by omega
      have e : j = j / 6 * 6 + j % 6 := by omega
      have h1 := mcs_get (ms := L) (k := j / 6) (j := j % 6) hk h6
      rw [← e] at h1
      rw [h1]
      have h2 : (Sort.flatK encM 6 L.toArray).toList[j]? = some ((encM (gm L (j / 6)))[j % 6]!) := by
        have hsz : j < (Sort.flatK encM 6 L.toArray).size := by simpa using hj
        rw [Array.getElem?_toList, Array.getElem?_eq_getElem hsz, ← getElem!_pos (Sort.flatK encM 6 L.toArray) j hsz, Sort.get_flatK _ _ _ _ (by simpa using hj)]
        rw [gm_eq hk]
        simp [hk]
      rw [h2]
      have h7 : j % 6 < (encM (gm L (j / 6))).length := h6
      rw [List.getElem!_eq_getElem?_getD, List.getElem?_eq_getElem h7]
      rfl
    · rw [List.getElem?_eq_none (by simp; omega), List.getElem?_eq_none (by rw [mcs_length]; omega)]
  have hcells : ∀ j, j < (mcs ms).length → cur[j]? = (mcs ms)[j]? := by
    intro j hj
    rw [mcs_length] at hj
    rw [← htk, List.getElem?_take, if_pos hj]
    simp
  have hH : Sort.HoldsK encM 6 w g 0 ms.toArray := by
    intro j hj
    have hj' : j < (mcs ms).length := by rw [mcs_length]; simpa using hj
    refine ⟨?_, hblk.frozen _⟩
    rw [Nat.zero_add, hblk.cell, hcells j hj', ← hfl ms]
    have hsz : j < (Sort.flatK encM 6 ms.toArray).size := hj
    rw [Array.getElem?_toList, Array.getElem?_eq_getElem hsz, ← getElem!_pos (Sort.flatK encM 6 ms.toArray) j hsz]
    rfl
  have hS := AnyQ.slices_SortFunc_total Tryz.sortL 6 (fun w => by exact Tryz.isAgg31 w) (fun w => by exact Tryz.sizeOf31 w) encM (fun _ => rfl) (fun x v hv => by
      simp at hv; rcases hv with rfl | rfl | rfl | rfl | rfl | rfl <;> rfl) cmpM swoM 109 #[] g 0 c ms.toArray w eg
    (fun m os dk _ x y => (compareM_grow x y _).mono fun e w' h => ⟨h.1, grows_of h.2.1 h.2.2⟩) hH hblk.lt (by simp; omega) totM
  rw [merge_sortM hnd] at hS
  refine hS.mono ?_
  rintro e w' ⟨rfl, q, os, rfl⟩
  have hlen : (sortM ms).length = ms.length := sortM_length hnd
  have hput : sortWorldK encM 6 w g 0 q (sortM ms).toArray os = Sort.grow ((w.drewN q).setCells g 0 (mcs (sortM ms))) os := by
    unfold sortWorldK Sort.putRowK
    have h1 : Sort.flatK encM 6 (sortM ms).toArray = (mcs (sortM ms)).toArray := by rw [← hfl]
    rw [h1, Lib.putRow_eq_setCells id w g 0 (Sort.flatK encM 6 ms.toArray) (mcs (sortM ms)) q hH (by simp [mcs_length, hlen])]
    simp
  rw [hput]
  obtain ⟨cs', hb', hs', _, hd'⟩ := Blk.setCells (mcs (sortM ms)) 0 (w.drewN q) cur (hblk.drewN q) (by rw [mcs_length, hlen, hcs]; omega)
  obtain ⟨a1, a2, a3, a4⟩ := setCells_same g (mcs (sortM ms)) 0 (w.drewN q)
  have hgr : ∀ (w1 : World) k, k < w1.heap.size → (Sort.grow w1 os).heap[k]? = w1.heap[k]? := fun w1 k hk => by
    show (w1.heap ++ os)[k]? = _
    exact Array.getElem?_append_left hk
  refine ⟨rfl, ⟨mcs_length _, .inr ⟨g, c, cs', by rw [hlen], hBg, ?_, by rw [hlen]; exact hcap, hcm, by rw [hs', hcs], ?_⟩⟩, ?_⟩
  · exact (hgr _ g hb'.lt).trans hb'
  · refine List.ext_getElem? fun j => ?_
    rw [List.getElem?_take]
    by_cases hj : j < (sortM ms).length * 6
    · rw [if_pos hj]
      have := hd' j (by rw [mcs_length]; exact hj)
      rw [Nat.zero_add] at this
      simpa using this
    · rw [if_neg hj, List.getElem?_eq_none (by rw [mcs_length]; omega)]
  · refine ⟨a1, a2, a3, ?_, fun k hk hne => ?_⟩
    · show w.heap.size ≤ (((w.drewN q).setCells g 0 (mcs (sortM ms))).heap ++ os).size
      rw [Array.size_append, a4]
      exact Nat.le_add_right _ _
    · rw [hgr _ k (by rw [a4]; exact hk)]
      exact heap_setCells_ne (fun e => hne (by rw [e])) _ _ _
end Go.Proofs.YtchjegojcpbfpaaGreat
