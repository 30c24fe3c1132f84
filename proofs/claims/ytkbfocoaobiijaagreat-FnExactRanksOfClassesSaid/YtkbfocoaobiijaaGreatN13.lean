/- The contract of spec.l02Closed; the maps are as the theorem states. -/
import Derived.Test.YtkbfocoaobiijaaGreatNC
namespace Go.Proofs.YtkbfocoaobiijaaGreat
open Go.RowKit
set_option maxRecDepth 100000
set_option linter.unusedSimpArgs false

theorem CS.start {n : Int} {w w1 w2 : World} (hb1 : Below w.heap.size w w1) (hb2 : Below (w1.heap.size + 3) (((w1.alloc (.cells (mc (one n)) 31)).alloc (.cells #[] 2)).alloc (.cells #[.slice (some ⟨w1.heap.size + 1, 0, none⟩) 0 0] 39)) w2) :
    CS w [one n] [[]] [.slice (some ⟨w1.heap.size + 1, 0, none⟩) 0 0] [one n] (.slice (some ⟨w1.heap.size, 0, none⟩) 1 1) (.slice (some ⟨w1.heap.size + 2, 0, none⟩) 1 1) ⟨w2.heap.size, 0, none⟩ (w2.alloc (.cells (mc (one n)) 31)) := by
  have z1 := hb1.size
  have z2 := hb2.size
  simp only [World.size_alloc] at z2
  have hbel : Below w.heap.size w w2 := ((((hb1.alloc z1 _).alloc (by simp; omega) _).alloc (by simp; omega) _)).trans (hb2.mono (by omega))
  have o1 : OwM 31 w2 w.heap.size (.slice (some ⟨w1.heap.size, 0, none⟩) 1 1) [one n] := (((OwM.one z1).alloc _).alloc _).below hb2 (by simp)
  have o2 : OwI 2 w2 w.heap.size (.slice (some ⟨w1.heap.size + 1, 0, none⟩) 0 0) [] :=
    ((OwI.made' (by simp) (by omega)).alloc _).below hb2 (by simp)
  have o3 : OwV 39 w2 w.heap.size (.slice (some ⟨w1.heap.size + 2, 0, none⟩) 1 1) [.slice (some ⟨w1.heap.size + 1, 0, none⟩) 0 0] := by
    have h := OwV.one (e := 39) (B := w.heap.size) (w := (w1.alloc (.cells (mc (one n)) 31)).alloc (.cells #[] 2)) (u := .slice (some ⟨w1.heap.size + 1, 0, none⟩) 0 0) (by simp; omega)
    simp only [World.size_alloc] at h
    exact h.below hb2 (by simp)
  refine ⟨hbel.alloc hbel.size _, o1.alloc _, o3.alloc _, rfl, ?_, ?_, by simp, ?_, ?_, ?_⟩
  · intro j hj
    obtain rfl : j = 0 := by simp at hj; exact hj
    exact o2.alloc _
  · have h : OwM 31 (w2.alloc (.cells (mc (one n)) 31)) w2.heap.size (.slice (some ⟨w2.heap.size, 0, none⟩) 1 1) [one n] := OwM.one (Nat.le_refl _)
    exact h.rd
  · intro g hg
    obtain rfl := own_eq hg
    refine ⟨fun e => ?_, by simp; omega⟩
    have := own_eq e
    omega
  · intro g hg
    obtain rfl := own_eq hg
    simp; omega
  · intro j hj g hg
    obtain rfl : j = 0 := by simp at hj; exact hj
    have hg := own_eq hg
    subst hg
    exact ⟨fun e => by have := own_eq e; omega, fun e => by have := own_eq e; omega⟩
theorem getD_snd {ps : Met} {j : Nat} : (ps.map (·.2)).getD j [] = (pm ps j).2 := by
  unfold pm
  simp only [List.getD_eq_getElem?_getD, List.getElem?_map]
  cases ps[j]? <;> rfl

theorem allC_done' {gens : List M} {fuel i : Nat} {ps : Met} (h : ¬ i < ps.length) : allC gens fuel i ps = some ps := by
  cases fuel with
  | zero => rfl
  | succ k => rw [allC, if_neg h]
set_option maxHeartbeats 4000000 in
theorem l02Closed_any (A : Option Addr) (L c : Nat) (gens : List M) (n : Int) (w : World) (hx : RdM w w.heap.size A gens) (hl : gens.length = L) (hL : L < 1073741824) (h1 : 1 ≤ n) (h5 : n ≤ 5) (hG : Pts n gens) :
    Calls Tryz.prog 139 #[.slice A L c, I n] w fun e w' => ∃ v1 v2, e = .returned (.tuple #[v1, v2, .bool (clo gens n).isSome]) ∧ Below w.heap.size w w' ∧ ∀ ps, clo gens n = some ps → OwM 31 w' w.heap.size v1 (ps.map (·.1)) ∧ ∃ vs, OwV 39 w' w.heap.size v2 vs ∧ vs.length = ps.length ∧ ∀ j, j < ps.length → OwI 2 w' w.heap.size (gv vs j) (pm ps j).2 := by
  have Hx := Lib.hid hx
  have Hl := Lib.hid hl
  have HG := Lib.hid hG
  clear hx hl hG
  go_enter Tryz.func139, Tryz.ntmps139
  go_wp2_with fail
  refine (l01Identity_any n _ h1 h5).mono ?_
  rintro e w1 ⟨rfl, hb1⟩
  go_wp2_with fail
  refine (l01Identity_any n _ h1 h5).mono ?_
  rintro e w2 ⟨rfl, hb2⟩
  have HS := Lib.hid (CS.start hb1 (by simpa using hb2))
  have hz1 := hb1.size
  clear hb1 hb2
  go_wp2_with fail
  go_loopw [7, 8, 9, 10] (fun vO vW vK i wr => ∃ (k : Nat) (ps : Met) (vs : List Value) (A : Addr) (c : Nat), i = .int .i64 k ∧ k ≤ ps.length ∧ vK = .slice (some A) ps.length c ∧ ps.length ≤ c ∧ CS w (ps.map (·.1)) (ps.map (·.2)) vs (sortM (ps.map (·.1))) vO vW A wr ∧ Good gens n ps ∧ Hid (allC gens (300 - k) k ps = clo gens n)) (fun _ _ _ i _ => 301 - (intOf i).toNat)
  case atStart => exact ⟨0, [(one n, [])], _, _, 1, rfl, by simp, rfl, by simp, HS.out, Good.start gens n, rfl⟩
  case round =>
    clear HS hz1
    obtain ⟨k, ps, vs, K, cK, rfl, hk, rfl, hcK, hN, hgd, HA⟩ := hrel
    have hlen := hgd.len
    obtain ⟨gF, cF, hvF⟩ := hN.o.some_ (by rw [List.length_map]; obtain ⟨qs, e, _⟩ := hgd.fst; rw [e]; simp)
    rw [List.length_map] at hvF
    subst hvF
    have HN := Lib.hid hN
    have Hgd := Lib.hid hgd
    clear hN hgd
    by_cases hlt : k < ps.length
    · have hki : (k : Int) < (ps.length : Int) := by omega
      have HA2 : Hid ((rowC (pm ps k).1 (pm ps k).2 (gens.drop 0) 0 ps).bind (allC gens (299 - k) (k + 1)) = clo gens n) := by
        have := HA.out
        rw [show 300 - k = (299 - k) + 1 by omega, allC, if_pos hlt] at this
        exact this
      obtain ⟨f, hf⟩ : ∃ f, f = (pm ps k).1 := ⟨_, rfl⟩
      obtain ⟨u, hu⟩ : ∃ u, u = (pm ps k).2 := ⟨_, rfl⟩
      rw [← hf, ← hu] at HA2
      have Hfu : Hid (pm ps k = (f, u)) := by show _ = _; rw [hf, hu]
      clear hf hu HA
      go_wp2_with fail
      go_loopw [11, 7, 8, 9] (fun i vO vW vK wr => ∃ (j : Nat) (ps : Met) (vs : List Value) (A : Addr) (c : Nat), i = .int .i64 j ∧ j ≤ L ∧ k < ps.length ∧ pm ps k = (f, u) ∧ vK = .slice (some A) ps.length c ∧ ps.length ≤ c ∧ CS w (ps.map (·.1)) (ps.map (·.2)) vs (sortM (ps.map (·.1))) vO vW A wr ∧ Good gens n ps ∧ Hid ((rowC f u (gens.drop j) j ps).bind (allC gens (299 - k) (k + 1)) = clo gens n)) (fun i _ _ _ _ => L - (intOf i).toNat)
      case atStart => exact ⟨0, ps, vs, K, cK, rfl, by omega, hlt, Hfu.out, rfl, hcK, HN.out, Hgd.out, HA2⟩
      case round =>
        clear HN Hgd HA2 Hfu hlt hki hk hlen hcK
        obtain ⟨j, ps, vs, K, cK, rfl, hj, hlt, hfu, rfl, hcK, hN, hgd, HA⟩ := hrel
        have hlen := hgd.len
        obtain ⟨gF, cF, hvF⟩ := hN.o.some_ (by rw [List.length_map]; omega)
        rw [List.length_map] at hvF
        subst hvF
        obtain ⟨gW, cW, hvW⟩ := hN.wd.some_ (by rw [hN.len, List.length_map]; omega)
        rw [hN.len, List.length_map] at hvW
        subst hvW
        have HN := Lib.hid hN
        have Hgd := Lib.hid hgd
        have Hfu := Lib.hid hfu
        clear hN hgd hfu
        by_cases hjl : j < L
        · obtain ⟨b, off, rfl, hbb, x0, x1, x2, x3, x4, x5⟩ := RdM.at_ (Rd.below Hx.out HN.out.bel) (k := j) (by rw [Hl.out]; exact hjl)
          obtain ⟨g, hg⟩ : ∃ g, g = gm gens j := ⟨_, rfl⟩
          rw [← hg] at x0 x1 x2 x3 x4 x5
          have hgm : g ∈ gens := by rw [hg, gm_eq (by rw [Hl.out]; exact hjl)]; exact List.getElem_mem _
          have hvg := (HG.out g hgm).1
          have hpg := (HG.out g hgm).2
          have hmf : (f, u) ∈ ps := by have := pm_mem hlt; rwa [Hfu.out] at this
          have hMf := Hgd.out.mon _ hmf
          have hvf := (hMf.ok h1 h5 HG.out).1
          have hpf := (hMf.ok h1 h5 HG.out).2
          have hvm : Valid (mul f g) := Valid.mul hvf hvg (by rw [hpf, hpg])
          have hEv : ∀ x ∈ sortM (ps.map (·.1)), Valid x := fun x hx => by
            rw [sortM_mem] at hx
            obtain ⟨q, hq, rfl⟩ := List.mem_map.1 hx
            exact ((Hgd.out.mon q hq).ok h1 h5 HG.out).1
          have HEv := Lib.hid hEv
          have hEl : (sortM (ps.map (·.1))).length = ps.length := by rw [sortM_length Hgd.out.nd, List.length_map]
          have HEl := Lib.hid hEl
          have Hg := Lib.hid hg
          have Hmf := Lib.hid hmf
          have ki : (k : Int) < (ps.length : Int) := by omega
          have kj : (j : Int) < (L : Int) := by omega
          have H6f : Hid (SixAt wr gF (k * 6) f) := by
            have h6 := RdM.at_ HN.out.o.rd (k := k) (by simpa using hlt)
            obtain ⟨b', off', e, _, h6⟩ := h6
            injection e with e
            injection e with e1 e2 _
            subst e1 e2
            have e3 : gm (ps.map (·.1)) k = f := by rw [← pm_fst hlt, Hfu.out]
            rw [Nat.zero_add, e3] at h6
            exact h6
          have hgl := H6f.out.lt
          have H6g : Hid (SixAt wr b (off + j * 6) g) := ⟨x0, x1, x2, x3, x4, x5⟩
          have hbl := H6g.out.lt
          clear x0 x1 x2 x3 x4 x5 hg hgm hpg hMf hpf hvg hmf hEv hEl
          go_wp2_with fail
          refine wp_region_box [] rfl (by kernel_rfl) (by kernel_rfl) (by kernel_rfl) (fun w' => Below wr.heap.size wr w') _
            (fun q => [.slice (some ⟨gF, 0, none⟩) ps.length cF, I k, .pointer (some ⟨gF, k * 6, none⟩), .agg (mc f), .slice (some ⟨b, off, none⟩) L c, I j, .pointer (some ⟨b, off + j * 6, none⟩), .agg (mc g), .agg (mc (mul f g)), .pointer (some ⟨q, 0, none⟩), undef])
            (by intro q; simp only [putAll, List.setIfInBounds_toArray, List.set_cons_succ, List.set_cons_zero]; rfl) (Below.refl _ _).drew 9 10 12 _ _ rfl rfl 31 (mc M0) (mc (mul f g)) (by kernel_rfl) (by kernel_rfl) (by decide) (fun _ _ => rfl) ?hop ?hal ?hst ?hQ
          case hop =>
            intro q
            refine FixBL.toL (fun w' w'' hS hb => hS.trans (hb.mono hS.size)) _ _ ?_
            refine ⟨.inr ?_, .inr ?_, .inr ?_, .inr ?_, .inr ?_, .inr ?_, .inr ?_, .inr ?_, .inr ?_, .inl rfl, .inl rfl, trivial⟩
            · (with_reducible refine FixB.of ?_ ?_; rfl; intro w' hS; have s0 := H6f.out.below hS (by omega); have s1 := H6g.out.below hS (by omega); clear hS; unfold Oper.wp; go_simp; first | done | exact Below.refl _ _)
            · (with_reducible refine FixB.of ?_ ?_; rfl; intro w' hS; have s0 := H6f.out.below hS (by omega); have s1 := H6g.out.below hS (by omega); clear hS; unfold Oper.wp; go_simp; first | done | exact Below.refl _ _)
            · (with_reducible refine FixB.of ?_ ?_; rfl; intro w' hS; have s0 := H6f.out.below hS (by omega); have s1 := H6g.out.below hS (by omega); clear hS; unfold Oper.wp; go_simp; first | done | exact Below.refl _ _)
            · (with_reducible refine FixB.of ?_ ?_; rfl; intro w' hS; have s0 := H6f.out.below hS (by omega); have s1 := H6g.out.below hS (by omega); clear hS; unfold Oper.wp; go_simp; first | done | exact Below.refl _ _)
            · (with_reducible refine FixB.of ?_ ?_; rfl; intro w' hS; have s0 := H6f.out.below hS (by omega); have s1 := H6g.out.below hS (by omega); clear hS; unfold Oper.wp; go_simp; first | done | exact Below.refl _ _)
            · (with_reducible refine FixB.of ?_ ?_; rfl; intro w' hS; have s0 := H6f.out.below hS (by omega); have s1 := H6g.out.below hS (by omega); clear hS; unfold Oper.wp; go_simp; first | done | exact Below.refl _ _)
            · (with_reducible refine FixB.of ?_ ?_; rfl; intro w' hS; have s0 := H6f.out.below hS (by omega); have s1 := H6g.out.below hS (by omega); clear hS; unfold Oper.wp; go_simp; first | done | exact Below.refl _ _)
            · (with_reducible refine FixB.of ?_ ?_; rfl; intro w' hS; have s0 := H6f.out.below hS (by omega); have s1 := H6g.out.below hS (by omega); clear hS; unfold Oper.wp; go_simp; first | done | exact Below.refl _ _)
            · (with_reducible refine FixB.of ?_ ?_; rfl; intro w' hS; have s3 := Lib.hid hS; unfold Oper.wp; clear hS; go_simp; refine (l01Times_any f g _ hvf).mono ?_; rintro e w1 ⟨rfl, hb⟩; exact ⟨rfl, hb⟩)
          case hal =>
            intro q
            refine ⟨rfl, fun w' hS => ?_⟩
            have s3 := Lib.hid hS
            clear hS
            unfold Oper.wp
            go_simp
            exact ⟨rfl, s3.out.alloc s3.out.size _⟩
          case hst =>
            intro q
            refine ⟨rfl, fun w' hS hq hB => ?_⟩
            have s3 := Lib.hid hS
            have d := hB.six
            have z := hB.fr6
            clear hS
            unfold Oper.wp
            go_simp
            exact ⟨below_st6 s3.out hq _, hB.st6 _, below_st6 (Below.refl _ _) hq _⟩
          case hQ =>
            intro q wb hS hq hB hbel
            clear hS
            have hqlt := hB.lt
            have hszb := hbel.size
            have HNb := Lib.hid (HN.out.below hbel)
            obtain ⟨m, hm⟩ : ∃ m, m = mul f g := ⟨_, rfl⟩
            rw [← hm] at hvm hB
            have Hm := Lib.hid hm
            have H6m : Hid (Six wb q m) := hB.six
            have hqF : gF < q := by have := (HN.out.o.lt gF rfl).2; omega
            have hqW : gW < q := by have := (HN.out.wd.lt gW rfl).2; omega
            obtain ⟨d0, d1, d2, d3, d4, d5⟩ := hB.six
            have hgj : gens.drop j = gm gens j :: gens.drop (j + 1) := drop_cons (by rw [Hl.out]; exact hjl)
            have Hgj : Hid (gens.drop j = g :: gens.drop (j + 1)) := by show _ = _; rw [hgj, ← Hg.out]
            have b0 := plOf_bd (sortM (ps.map (·.1))) m
            rw [HEl.out] at b0
            clear hgj hbel hB HN H6f H6g hm
            go_wp2_with fail
            refine (l02Find_any (some K) ps.length cK (sortM (ps.map (·.1))) m _ HNb.out.k HEl.out (by omega) (sortM_asc _) HEv.out hvm).mono ?_
            rintro e wc ⟨rfl, hbc⟩
            have HNc := Lib.hid (HNb.out.below hbc)
            have HMc : Hid (Six wc q m) := H6m.out.below hbc hqlt
            have hszc := hbc.size
            clear hbc HNb H6m d0 d1 d2 d3 d4 d5
            by_cases hin : m ∈ ps.map (·.1)
            · have hin2 : m ∈ sortM (ps.map (·.1)) := sortM_mem.2 hin
              obtain ⟨x, hx⟩ : ∃ x : Nat, plOf (sortM (ps.map (·.1))) m - 1 = (x : Int) := ⟨ix (sortM (ps.map (·.1))) m, by rw [plOf_in hin2]; omega⟩
              rw [hx]
              have HA4 : Hid ((rowC f u (gens.drop (j + 1)) (j + 1) ps).bind (allC gens (299 - k) (k + 1)) = clo gens n) := by
                have := HA.out
                rw [Hgj.out, rowC_in (by rw [← Hm.out]; exact hin)] at this
                exact this
              have hx0 : (0 : Int) ≤ (x : Int) := by omega
              clear hin hin2 hx b0
              go_wp2
              go_roundw
              case rel => exact ⟨j + 1, ps, vs, K, cK, by go_num, by omega, hlt, Hfu.out, rfl, hcK, HNc.out, Hgd.out, HA4⟩
              case measure => simp [intOf]; omega
            · have hx : plOf (sortM (ps.map (·.1))) m - 1 = -1 := by rw [plOf_out (fun h => hin (sortM_mem.1 h))]; rfl
              rw [hx]
              have Hin := Lib.hid hin
              clear hin hx b0
              by_cases h300 : ps.length = 300
              · have Hcn : Hid (clo gens n = none) := by
                  have := HA.out
                  rw [Hgj.out, rowC_full (by rw [← Hm.out]; exact Hin.out) h300] at this
                  exact this.symm
                have h301 : (ps.length : Int) = 300 := by omega
                have Hcl : Hid ((clo gens n).isSome = false) := by show _ = _; rw [Hcn.out]; rfl
                go_wp2_with fail
                go_ret3
                exact ⟨_, _, by rw [Hcl.out] <;> rfl, HNc.out.bel, fun ps h => (by rw [Hcn.out] at h; cases h)⟩
              · have h301 : ¬ (ps.length : Int) = 300 := by omega
                obtain ⟨d0, d1, d2, d3, d4, d5⟩ := HMc.out
                have hqc : q < wc.heap.size := HMc.out.lt
                have hlm : (ps.map (·.1)).length = ps.length := by simp
                have Hlm := Lib.hid hlm
                have hk2 : k < (ps.map (·.2)).length := by simpa using hlt
                obtain ⟨Au, cu, hvu, _⟩ := (HNc.out.ws k hk2).form
                rw [getD_snd, Hfu.out] at hvu
                simp only at hvu
                have Hvu := Lib.hid hvu
                have hul : u.length ≤ k := by
                  have := Hgd.out.wl k hlt
                  rw [Hfu.out] at this
                  exact this
                clear hlm hvu
                go_wp2_with (at_builtin; refine wpList_pushM rfl (.tmp 49) (.tmp 51) rfl w.heap.size (.slice (some ⟨gF, 0, none⟩) ps.length cF) (ps.map (·.1)) rfl (HNc.out.o.alloc _) ps.length Hlm.out wc.heap.size 1 m rfl (Blk.six (Blk.new _ _ _)) (by omega) (by have := HNc.out.bel.size; simp; omega) (wc.heap.size + 1) (by simp) ?_; intro g3 c3 wd ho3 hgr3 hor3 hlt3; have HN3 := Lib.hid ((HNc.out.below ((Below.refl _ _).alloc (Nat.le_refl _) (.cells (mc m) 31))).pushO ho3 hgr3 (by rcases hor3 with h | h; exact .inl h; right; simp; omega)); have H6d : Hid (Six wd q m) := (HMc.out.alloc (.cells (mc m) 31)).grown hgr3 (fun e => by have := own_eq e.symm; omega); have hz3 := hgr3.size; simp only [World.size_alloc] at hz3; clear ho3 hgr3 hor3 HNc HMc d0 d1 d2 d3 d4 d5; have hcw := (RdV.at_ HN3.out.wd.rd (k := k) (by rw [HN3.out.len]; exact hk2)); rw [Hvu.out] at hcw; have hcw2 : wd.cell? ⟨gW, k, none⟩ = some (.slice Au u.length cu) := (by obtain ⟨b', o', e, _, h⟩ := hcw; injection e with e; injection e with e1 e2 _; subst e1 e2; rw [Nat.zero_add] at h; exact h); clear hcw)
                have Hu3 : Hid (OwI 2 wd w.heap.size (.slice Au u.length cu) u) := by
                  have h := HN3.out.ws k hk2
                  rw [getD_snd, Hfu.out, Hvu.out] at h
                  exact h
                have Hu4 : Hid (RdI wd wd.heap.size Au u) := by
                  obtain ⟨A', c', e, h⟩ := Hu3.out.form
                  injection e with e1 _ e2
                  subst e1 e2
                  exact h
                refine (l01Own_any Au u.length cu u _ Hu3.out.nilA Hu4.out rfl (by omega)).mono ?_
                rintro e we ⟨v4, rfl, ho4, hb4⟩
                obtain ⟨A4, c4, rfl, _⟩ := ho4.form
                have hz4 := hb4.size
                have Ho4 := Lib.hid ho4
                have Hb4 := Lib.hid hb4
                have hz0 := HN3.out.bel.size
                clear ho4 hb4 Hu3 Hu4 hcw2
                have Hvl : Hid (vs.length = ps.length) := by show _ = _; rw [HN3.out.len, List.length_map]
                go_wp2_with (at_builtin; first | (refine wpList_pushI rfl (.tmp 58) (.tmp 60) rfl wd.heap.size (.slice A4 u.length c4) u rfl (Ho4.out.alloc _) we.heap.size 1 j rfl ((Blk.new _ _ _).cell 0) (by omega) (by simp; omega) (we.heap.size + 1) (by simp) ?_; intro g5 c5 wf ho5 hgr5 hor5 hlt5; have Hb5 := Lib.hid ((Ho4.out.alloc (.cells #[I j] 2)).bel (Hb4.out.alloc hz4 _) hgr5 (Nat.le_refl _) (by simp; omega)); have hz5 := hgr5.size; simp only [World.size_alloc] at hz5; have Ho5 := Lib.hid ho5; clear ho5 hgr5 hor5 Ho4 Hb4; have HN5 := Lib.hid (HN3.out.below Hb5.out); have H6e : Hid (Six wf q m) := H6d.out.below Hb5.out (by omega); clear H6d) | (refine wpList_pushV rfl (.tmp 53) (.tmp 62) rfl w.heap.size (.slice (some ⟨gW, 0, none⟩) ps.length cW) vs rfl (HN5.out.wd.alloc _) ps.length Hvl.out wf.heap.size 1 (.slice (some ⟨g5, 0, none⟩) (u.length + 1) c5) rfl rfl ((Blk.new _ _ _).cell 0) (by omega) (by simp; omega) (wf.heap.size + 1) (by simp) ?_; intro g6 c6 wg ho6 hgr6 hor6 hlt6; have HN6 := Lib.hid ((HN5.out.below ((Below.refl _ _).alloc (Nat.le_refl _) (.cells #[.slice (some ⟨g5, 0, none⟩) (u.length + 1) c5] 39))).pushW ho6 hgr6 (by rcases hor6 with h | h; exact .inl h; right; simp; omega) ((Ho5.out.mono (by omega)).alloc _) (fun g' hg' => (by have h5' := (Ho5.out.lt g' hg').1; exact ⟨fun e => by have := own_eq e; omega, fun e => by have := own_eq e; have := (HN3.out.wd.lt gW rfl).2; omega⟩))); have H6h : Hid (Six wg q m) := (H6e.out.alloc (.cells #[.slice (some ⟨g5, 0, none⟩) (u.length + 1) c5] 39)).grown hgr6 (fun e => by have := own_eq e.symm; omega); have hz6 := hgr6.size; simp only [World.size_alloc] at hz6; clear ho6 hgr6 hor6 HN5 H6e; obtain ⟨d0, d1, d2, d3, d4, d5⟩ := H6h.out))
                refine (l01Put_any K ps.length cK (sortM (ps.map (·.1))) m _ HN6.out.k HEl.out hcK (by omega) (sortM_asc _) HEv.out hvm).mono ?_
                rintro e wh ⟨K7, c7, rfl, hc7, hr7, hk7, hb7⟩
                have hins : insM m (sortM (ps.map (·.1))) = sortM ((ps ++ [(m, u ++ [(j : Int)])]).map (·.1)) := by
                  rw [List.map_append, ← sortM_snoc]; rfl
                have hl7 : (insM m (sortM (ps.map (·.1)))).length = (ps ++ [(m, u ++ [(j : Int)])]).length := by
                  rw [insM_length (fun h => Hin.out (sortM_mem.1 h)), HEl.out]; simp
                have HN7 : Hid (CS w ((ps ++ [(m, u ++ [(j : Int)])]).map (·.1)) ((ps ++ [(m, u ++ [(j : Int)])]).map (·.2)) (vs ++ [.slice (some ⟨g5, 0, none⟩) (u.length + 1) c5]) (sortM ((ps ++ [(m, u ++ [(j : Int)])]).map (·.1))) (.slice (some ⟨g3, 0, none⟩) (ps.length + 1) c3) (.slice (some ⟨g6, 0, none⟩) (ps.length + 1) c6) K7 wh) := by
                  have h := HN6.out.putK hb7 hk7 hr7 (by rw [hl7]; simp)
                  have e1 : (ps ++ [(m, u ++ [(j : Int)])]).map (·.1) = ps.map (·.1) ++ [m] := by simp
                  have e2 : (ps ++ [(m, u ++ [(j : Int)])]).map (·.2) = ps.map (·.2) ++ [u ++ [(j : Int)]] := by simp
                  rw [hins, e1] at h
                  show CS _ _ _ _ _ _ _ _ _
                  rw [e2, e1]
                  exact h
                rw [hl7] at hc7 ⊢
                have Hgd2 := Lib.hid (Hgd.out.add (f := f) (u := u) (k := j) Hmf.out (by rw [Hl.out]; exact hjl) (by rw [← Hg.out, ← Hm.out]; exact Hin.out) h300)
                rw [← Hg.out, ← Hm.out] at Hgd2
                have HA5 : Hid ((rowC f u (gens.drop (j + 1)) (j + 1) (ps ++ [(m, u ++ [(j : Int)])])).bind (allC gens (299 - k) (k + 1)) = clo gens n) := by
                  have := HA.out
                  rw [Hgj.out, rowC_new (by rw [← Hm.out]; exact Hin.out) h300, ← Hm.out] at this
                  exact this
                have Hfu2 : Hid (pm (ps ++ [(m, u ++ [(j : Int)])]) k = (f, u)) := by show _ = _; rw [pm_app hlt]; exact Hfu.out
                have Hc7 := Lib.hid hc7
                clear hr7 hk7 hb7 hins hl7 hc7 HN6 HN3 H6h d0 d1 d2 d3 d4 d5 Hgd HA Hmf Hfu
                go_wp2_with fail
                go_roundw
                case rel => exact ⟨j + 1, ps ++ [(m, u ++ [(j : Int)])], _, K7, c7, by go_num, by omega, by simp; omega, Hfu2.out, by simp, Hc7.out, HN7.out, Hgd2.out, HA5⟩
                case measure => simp [intOf]; omega
        · obtain rfl : j = L := by omega
          have HA3 : Hid (allC gens (300 - (k + 1)) (k + 1) ps = clo gens n) := by
            have := HA.out
            rw [List.drop_eq_nil_of_le (by rw [Hl.out]; exact Nat.le_refl _), rowC_nil] at this
            rw [show 300 - (k + 1) = 299 - k by omega]
            exact this
          go_wp2_with fail
          go_roundw
          case rel => exact ⟨k + 1, ps, vs, K, cK, by go_num, by omega, rfl, hcK, HN.out, Hgd.out, HA3⟩
          case measure => simp [intOf]; omega
    · have Hcl : Hid (clo gens n = some ps) := by
        have := HA.out
        rw [allC_done' hlt] at this
        exact this.symm
      have Hsm : Hid ((clo gens n).isSome = true) := by show _ = _; rw [Hcl.out]; rfl
      obtain ⟨gW, cW, hvW⟩ := HN.out.wd.some_ (by rw [HN.out.len, List.length_map]; obtain ⟨qs, e, _⟩ := Hgd.out.fst; rw [e]; simp)
      rw [HN.out.len, List.length_map] at hvW
      subst hvW
      have hki : ¬ (k : Int) < (ps.length : Int) := by omega
      have hkk : (ps.length : Int) ≤ (k : Int) := by omega
      go_wp2_with fail
      go_ret3
      refine ⟨_, _, by rw [Hsm.out] <;> rfl, HN.out.bel, fun ps' h => ?_⟩
      rw [Hcl.out] at h
      injection h with h
      subst h
      exact ⟨HN.out.o, vs, HN.out.wd, by rw [HN.out.len, List.length_map], fun j hj => by rw [← getD_snd]; exact HN.out.ws j (by simpa using hj)⟩
end Go.Proofs.YtkbfocoaobiijaaGreat
