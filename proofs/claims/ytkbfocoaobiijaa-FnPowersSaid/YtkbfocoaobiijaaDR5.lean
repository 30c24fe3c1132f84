/- Contracts of a map that seldom is none; no conditions beyond those that the theorems state. -/
import Derived.Test.YtkbfocoaobiijaaDR4
namespace Go.Proofs.Ytkbfocoaobiijaa
open Go.RowKit
set_option maxRecDepth 100000
set_option linter.unusedSimpArgs false
set_option linter.unusedVariables false

structure BG where
  j : Nat
  q : Nat
  v : Int
/-- what stands in the region that spoils an image -/
structure SB (w0 : World) (s : Nat) (A : Option Addr) (n c : Nat) (zs : List Int) (f : M) (b1 b5 b6 b9 : Bool) (o : BG) (w : World) : Prop where
  src : Src w s A n c zs
  gr : w0.grownBy w (some s)
  low : s < w0.heap.size
  two : w0.heap.size + 2 ≤ w.heap.size
  res : Blk w (w0.heap.size + 1) 26 (mc M0)
  own : ∃ m, Blk w w0.heap.size 26 (mc m) ∧ (b9 = false → m = f)
  h1 : b1 = true → o.j < 5
  h5 : b5 = true → b6 = false → OwI 2 w (w0.heap.size + 2) (.slice (some ⟨o.q, 0, none⟩) 3 3) [-1, f.p, 1099511627776]
section
variable {w0 w w' : World} {s : Nat} {A : Option Addr} {n c : Nat} {zs : List Int} {f : M} {b1 b5 b6 b9 : Bool} {o : BG}
theorem SB.next (h : SB w0 s A n c zs f b1 b5 b6 b9 o w) (hs : Src w' s A n c zs) (hg : w.grownBy w' (some s)) : SB w0 s A n c zs f b1 b5 b6 b9 o w' :=
  ⟨hs, grown_trans h.gr hg, h.low, Nat.le_trans h.two hg.size, h.res.grown hg (fun e => by have := h.low; injection e with e; omega),
    by obtain ⟨m, hm, he⟩ := h.own; exact ⟨m, hm.grown hg (fun e => by have := h.low; injection e with e; omega), he⟩, h.h1,
    fun e1 e2 => OwI.keep (h.h5 e1 e2) (fun q hq => hg.block q ((h.h5 e1 e2).lt q hq).2 (by have := ((h.h5 e1 e2).lt q hq).1; have := h.low; intro e; injection e with e; omega))⟩
theorem SB.pts (h : SB w0 s A n c zs f b1 b5 b6 false o w) : Blk w w0.heap.size 26 (mc f) := by
  obtain ⟨m, hm, he⟩ := h.own
  rwa [he rfl] at hm
theorem SB.do1 (h : SB w0 s A n c zs f false b5 b6 b9 o w) (hs : Src w' s A n c zs) (hg : w.grownBy w' (some s)) {j : Nat} (hj : j < 5) : SB w0 s A n c zs f true b5 b6 b9 { o with j := j } w' := by
  have k := h.next hs hg
  exact ⟨k.src, k.gr, k.low, k.two, k.res, k.own, fun _ => hj, k.h5⟩
theorem SB.do5 (h : SB w0 s A n c zs f b1 false false b9 o w) : SB w0 s A n c zs f b1 true false b9 { o with q := w.heap.size } (w.alloc (.cells (cI [-1, f.p, 1099511627776]).toArray 2)) := by
  have hb : Below w.heap.size w (w.alloc (.cells (cI [-1, f.p, 1099511627776]).toArray 2)) := (Below.refl _ _).alloc (Nat.le_refl _) _
  have k := h.next (h.src.below hb) (grown_below hb _)
  exact ⟨k.src, k.gr, k.low, k.two, k.res, k.own, k.h1, fun _ _ => OwI.lit w [-1, f.p, 1099511627776] rfl (by decide) h.two⟩
theorem SB.do6 (h : SB w0 s A n c zs f b1 true false b9 o w) (hs : Src w' s A n c zs) (hg : w.grownBy w' (some s)) (v : Int) : SB w0 s A n c zs f b1 true true b9 { o with v := v } w' := by
  have k := h.next hs hg
  exact ⟨k.src, k.gr, k.low, k.two, k.res, k.own, k.h1, by simp⟩
theorem SB.do9 (h : SB w0 s A n c zs f true true true false o w) : SB w0 s A n c zs f true true true true o (w.setCell ⟨w0.heap.size, 1 + o.j, none⟩ (I o.v)) := by
  have hj := h.h1 rfl
  exact ⟨h.src.cell_far h.low _, grown_far h.gr (Nat.le_refl _) _, h.low, by simpa [World.setCell] using h.two, h.res.far (by simp) _,
    ⟨_, (h.pts.set_ (1 + o.j) (I o.v)).cast (by rw [← mk'_eta f]; exact mc_set f.p f.at o.v hj), by simp⟩, h.h1, by simp⟩
end

set_option maxHeartbeats 400000 in
theorem bad_any {s : Nat} {A : Option Addr} {n c : Nat} {zs : List Int} (f : M) (w : World) (hS : Src w s A n c zs) :
    Calls Try.prog 57 #[.pointer (some ⟨s, 0, none⟩), .agg (mc f)] w (RetMp s A n c zs (fun _ => True) w) := by
  have HS := Lib.hid hS
  have hsl := hS.lt
  clear hS
  go_enter Try.func57, Try.ntmps57
  go_wp2_with fail
  have hb0 : Below w.heap.size w (w.alloc (.cells (mc f) 26)) := (Below.refl _ _).alloc (Nat.le_refl _) _
  have hb1 : Below w.heap.size w ((w.alloc (.cells (mc f) 26)).alloc (.cells (mc M0) 26)) := hb0.alloc (by simp) _
  have S0 : SB w s A n c zs f false false false false ⟨0, 0, 0⟩ ((w.alloc (.cells (mc f) 26)).alloc (.cells (mc M0) 26)) :=
    ⟨HS.out.below hb1, grown_below hb1 _, hsl, by simp, Blk.new' _ _ _ (by simp), ⟨f, (Blk.new w _ _).alloc _, fun _ => rfl⟩, by simp, by simp⟩
  refine (next_any 40 _ S0.src).mono ?_
  rintro e w1 ⟨r, rfl, hr, _, hS1, hg1⟩
  have D1 := Lib.hid (S0.next hS1 hg1)
  clear hr hS1 hg1 S0 hb0 hb1
  by_cases r0 : r = 0
  · subst r0
    obtain ⟨d0, _⟩ := D1.out.pts.six
    have l1 := D1.out.pts.lt
    obtain ⟨x, hx⟩ : ∃ x, x = wrap64 (f.p + 1) := ⟨_, rfl⟩
    go_wp2_with fail
    rw [← hx]
    have hb2 : Below w1.heap.size w1 (w1.alloc (.cells (cI [0, 6, -1, x]).toArray 2)) := (Below.refl _ _).alloc (Nat.le_refl _) _
    have S2 := D1.out.next (D1.out.src.below hb2) (grown_below hb2 _)
    refine (pick_any w1.heap.size 4 4 [0, 6, -1, x] _ S2.src (OwI.lit w1 [0, 6, -1, x] rfl (by decide) D1.out.src.lt) rfl (by decide) (by decide)).mono ?_
    rintro e w2 ⟨r, rfl, hr, hS2, hg2⟩
    have S3 := S2.next hS2 hg2
    have D3 := Lib.hid S3
    obtain ⟨d0, d1, d2, d3, d4, d5⟩ := S3.pts.six
    obtain ⟨y0, y1, y2, y3, y4, y5⟩ := S3.pts.fr6
    obtain ⟨e0, e1, e2, e3, e4, e5⟩ := S3.res.six
    obtain ⟨z0, z1, z2, z3, z4, z5⟩ := S3.res.fr6
    have hlo := Lib.hid S3.low
    clear hr hS2 hg2 hb2 S2 S3
    have HF : Hid (RetMp s A n c zs (fun _ => True) w (.returned (.agg (mc ⟨r, f.t0, f.t1, f.t2, f.t3, f.t4⟩))) (st6 (w2.setCell ⟨w.heap.size, 0, none⟩ (I r)) (w.heap.size + 1) ⟨r, f.t0, f.t1, f.t2, f.t3, f.t4⟩)) :=
      ⟨⟨r, f.t0, f.t1, f.t2, f.t3, f.t4⟩, rfl, trivial, Src.st6 (D3.out.src.cell_far (p := ⟨w.heap.size, 0, none⟩) hsl (I r)) (Nat.lt_succ_of_lt hsl) ⟨r, f.t0, f.t1, f.t2, f.t3, f.t4⟩, grown_st6 (grown_far (p := ⟨w.heap.size, 0, none⟩) D3.out.gr (Nat.le_refl _) (I r)) (Nat.le_succ _) ⟨r, f.t0, f.t1, f.t2, f.t3, f.t4⟩⟩
    clear D3 hlo
    go_wp2_with fail
    refine bodyPost_ret (v := .agg (mc ⟨r, f.t0, f.t1, f.t2, f.t3, f.t4⟩)) ?_ rfl HF.out
    simp [results, Try.results57, go_sem, *]
  by_cases r1 : r = 1
  · subst r1
    go_wp2_with fail
    refine wp_region_flags [] rfl (by kernel_rfl) (by kernel_rfl) [] (by kernel_rfl) _
      (fun o : BG => [.pointer (some ⟨s, 0, none⟩), I o.j, .pointer (some ⟨s, 0, none⟩), .pointer (some ⟨w.heap.size, 0, none⟩), I f.p, .slice (some ⟨o.q, 0, none⟩) 3 3, I o.v, .pointer (some ⟨w.heap.size, 1, none⟩), .pointer (some ⟨w.heap.size, 1 + o.j, none⟩), undef])
      (by intro o; simp only [putAll, List.setIfInBounds_toArray, List.set_cons_succ, List.set_cons_zero]; rfl)
      [] rfl _
      (by intro o; simp only [setAll, List.setIfInBounds_toArray, List.set_cons_succ, List.set_cons_zero]; rfl) (by kernel_rfl)
      (fun d o w' => SB w s A n c zs f (d 1) (d 5) (d 6) (d 9) o w')
      ⟨0, 0, 0⟩ (D1.out.next (D1.out.src.below (Below.refl _ _).drew) (grown_below (Below.refl _ _).drew _)) ?hop ?hQ
    case hop =>
      refine ⟨?_, ?_, ?_, ?_, ?_, ?_, ?_, ?_, ?_, ?_, trivial⟩
      · refine ⟨rfl, Flag.pure (fun _ _ _ h => h) fun d c w' hd hdeps hcl hS => ?_⟩
        skip
        clear hS hdeps hcl hd
        unfold Oper.wp
        go_simp
        exact ⟨rfl, fun t ht => by injection ht with ht; subst ht; rfl, rfl⟩
      · refine ⟨rfl, fun d o w' hd hdeps hcl hS => ?_⟩
        have hS : SB w s A n c zs f (d 1) (d 5) (d 6) (d 9) o w' := hS
        have d8 := hcl.down (k := 8) (j := 1) rfl (by kernel_rfl) hd
        rw [hd] at hS
        have HSB := Lib.hid hS
        clear hS hdeps hcl
        unfold Oper.wp
        go_simp
        refine (next_any 5 w' HSB.out.src).mono ?_
        rintro e w6 ⟨r, rfl, hr, _, hS6, hg6⟩
        obtain ⟨hr0, hr5⟩ := hr (by decide)
        obtain ⟨j, hj⟩ : ∃ j : Nat, (j : Int) = r := ⟨r.toNat, by omega⟩
        subst hj
        refine ⟨({ o with j := j } : BG), [(19, I j), (26, .pointer (some ⟨w.heap.size, 1 + j, none⟩))], ⟨rfl, fun t ht => by injection ht with ht; subst ht; rfl⟩, ?_, rfl, ?_⟩
        · exact HSB.out.do1 hS6 hg6 (by omega)
        · intro p hp
          simp at hp
          rcases hp with rfl | rfl
          · exact .inl rfl
          · exact .inr ⟨8, _, rfl, rfl, by decide, d8⟩
      · refine ⟨rfl, Flag.pure (fun _ _ _ h => h) fun d c w' hd hdeps hcl hS => ?_⟩
        skip
        clear hS hdeps hcl hd
        unfold Oper.wp
        go_simp
        exact ⟨rfl, fun t ht => by injection ht with ht; subst ht; rfl, rfl⟩
      · refine ⟨rfl, Flag.pure (fun _ _ _ h => h) fun d c w' hd hdeps hcl hS => ?_⟩
        skip
        clear hS hdeps hcl hd
        unfold Oper.wp
        go_simp
        exact ⟨rfl, fun t ht => by injection ht with ht; subst ht; rfl, rfl⟩
      · refine ⟨rfl, fun d o w' hd hdeps hcl hS => ?_⟩
        have hS : SB w s A n c zs f (d 1) (d 5) (d 6) (d 9) o w' := hS
        have d9 : d 9 = false := hcl.down (k := 9) (j := 6) rfl (by kernel_rfl) (hcl.down (k := 6) (j := 5) rfl (by kernel_rfl) (hcl.down (k := 5) (j := 4) rfl (by kernel_rfl) hd))
        have hS9 : SB w s A n c zs f (d 1) (d 5) (d 6) false o w' := by rw [← d9]; exact hS
        obtain ⟨c0, _⟩ := hS9.pts.six
        have Hs := Lib.hid hS
        clear hS hdeps hcl hd hS9
        unfold Oper.wp
        go_simp
        exact ⟨o, [], ⟨rfl, fun t ht => by injection ht with ht; subst ht; rfl⟩, Hs.out, rfl, by simp⟩
      · refine ⟨rfl, fun d o w' hd hdeps hcl hS => ?_⟩
        have hS : SB w s A n c zs f (d 1) (d 5) (d 6) (d 9) o w' := hS
        have d6 := hcl.down (k := 6) (j := 5) rfl (by kernel_rfl) hd
        rw [hd, d6] at hS
        have hS2 := Lib.hid hS.do5
        clear hS hdeps hcl
        unfold Oper.wp
        go_simp
        refine FlagPost.own ({ o with q := w'.heap.size } : BG) 23 (.slice (some ⟨w'.heap.size, 0, none⟩) 3 3) rfl rfl rfl ?_ rfl
        show SB _ _ _ _ _ _ _ (d 1) true (d 6) (d 9) _ _
        rw [d6]
        exact hS2.out
      · refine ⟨rfl, fun d o w' hd hdeps hcl hS => ?_⟩
        have hS : SB w s A n c zs f (d 1) (d 5) (d 6) (d 9) o w' := hS
        have d5 := hdeps 5 (by kernel_rfl)
        rw [hd, d5] at hS
        have HSB := Lib.hid hS
        clear hS hdeps hcl
        unfold Oper.wp
        go_simp
        refine (pick_any o.q 3 3 [-1, f.p, 1099511627776] w' HSB.out.src ((HSB.out.h5 rfl rfl).mono (by have := HSB.out.low; omega)) rfl (by decide) (by decide)).mono ?_
        rintro e w6 ⟨r, rfl, hr, hS6, hg6⟩
        refine FlagPost.own ({ o with v := r } : BG) 24 (I r) rfl rfl rfl ?_ rfl
        show SB _ _ _ _ _ _ _ (d 1) (d 5) true (d 9) _ _
        rw [d5]
        exact HSB.out.do6 hS6 hg6 r
      · refine ⟨rfl, Flag.pure (fun _ _ _ h => h) fun d c w' hd hdeps hcl hS => ?_⟩
        skip
        clear hS hdeps hcl hd
        unfold Oper.wp
        go_simp
        exact ⟨rfl, fun t ht => by injection ht with ht; subst ht; rfl, rfl⟩
      · refine ⟨rfl, fun d o w' hd hdeps hcl hS => ?_⟩
        have hS : SB w s A n c zs f (d 1) (d 5) (d 6) (d 9) o w' := hS
        have d1 := hdeps 1 (by kernel_rfl)
        have hj : o.j < 5 := hS.h1 d1
        have hjz : (o.j : Int) < 5 := by omega
        have Hs := Lib.hid hS
        clear hS hdeps hcl hd
        unfold Oper.wp
        go_simp
        exact ⟨o, [], ⟨rfl, fun t ht => by injection ht with ht; subst ht; rfl⟩, Hs.out, rfl, by simp⟩
      · refine ⟨rfl, fun d o w' hd hdeps hcl hS => ?_⟩
        have hS : SB w s A n c zs f (d 1) (d 5) (d 6) (d 9) o w' := hS
        have d8 := hdeps 8 (by kernel_rfl)
        have d6 := hdeps 6 (by kernel_rfl)
        have d1 := hcl.up (k := 8) (j := 1) rfl (by kernel_rfl) d8
        have d5 := hcl.up (k := 6) (j := 5) rfl (by kernel_rfl) d6
        rw [hd, d1, d5, d6] at hS
        have c3 := hS.pts.at_ (hS.h1 rfl)
        have z1 := hS.pts.frozen (1 + o.j)
        have Hs := Lib.hid hS.do9
        clear hS hdeps hcl
        unfold Oper.wp
        go_simp
        refine ⟨o, [], ⟨rfl, fun t ht => by cases ht⟩, ?_, rfl, by simp⟩
        show SB _ _ _ _ _ _ _ (d 1) (d 5) (d 6) true _ _
        rw [d1, d5, d6]
        exact Hs.out
    case hQ =>
    intro fl o we hall hS
    have hS : SB w s A n c zs f (fl 1) (fl 5) (fl 6) (fl 9) o we := hS
    have HS3 := Lib.hid hS
    obtain ⟨m, hm, _⟩ := hS.own
    obtain ⟨d0, d1, d2, d3, d4, d5⟩ := hm.six
    obtain ⟨e0, e1, e2, e3, e4, e5⟩ := hS.res.six
    obtain ⟨z0, z1, z2, z3, z4, z5⟩ := hS.res.fr6
    clear hS hall hm
    go_wp2_with fail
    refine bodyPost_ret (v := .agg (mc m)) ?_ rfl ⟨m, rfl, trivial, HS3.out.src.st6 (by omega) m, grown_st6 HS3.out.gr (by omega) m⟩
    simp [results, Try.results57, go_sem, *]
  obtain ⟨d0, d1, d2, d3, d4, d5⟩ := D1.out.pts.six
  obtain ⟨e0, e1, e2, e3, e4, e5⟩ := D1.out.res.six
  obtain ⟨z0, z1, z2, z3, z4, z5⟩ := D1.out.res.fr6
  go_wp2_with fail
  refine bodyPost_ret (v := .agg (mc f)) ?_ rfl ⟨f, rfl, trivial, D1.out.src.st6 (by omega) f, grown_st6 D1.out.gr (by omega) f⟩
  simp [results, Try.results57, go_sem, *]

theorem spoil_any {s : Nat} {A : Option Addr} {n c : Nat} {zs : List Int} (w : World) (hS : Src w s A n c zs) :
    Calls Try.prog 35 #[.pointer (some ⟨s, 0, none⟩)] w (RetMp s A n c zs (fun _ => True) w) := by
  have HS := Lib.hid hS
  have hsl := hS.lt
  clear hS
  go_enter Try.func35, Try.ntmps35
  go_wp2_with fail
  have hb0 : Below w.heap.size w (w.alloc (.cells (mc M0) 26)) := (Below.refl _ _).alloc (Nat.le_refl _) _
  have Hb := Lib.hid (Blk.new w 26 (mc M0))
  refine (draw_any _ (HS.out.below hb0)).mono ?_
  rintro e w2 ⟨m, rfl, _, hS2, hg2⟩
  have Hg2 := Lib.hid (grown_trans (grown_below hb0 _) hg2)
  have Hb2 := Lib.hid (Hb.out.grown hg2 (fun e => by injection e with e; omega))
  have HS2 := Lib.hid hS2
  clear hS2 hg2 hb0
  go_wp2_with fail
  refine (bad_any m w2 HS2.out).mono ?_
  rintro e w3 ⟨m3, rfl, _, hS3, hg3⟩
  have Hb3 := Hb2.out.grown hg3 (fun e => by injection e with e; omega)
  obtain ⟨e0, e1, e2, e3, e4, e5⟩ := Hb3.six
  obtain ⟨z0, z1, z2, z3, z4, z5⟩ := Hb3.fr6
  have HS3 := Lib.hid hS3
  have Hg3 := Lib.hid (grown_trans Hg2.out hg3)
  clear hS3 hg3 Hb3
  go_wp2_with fail
  refine bodyPost_ret (v := .agg (mc m3)) ?_ rfl ⟨m3, rfl, trivial, HS3.out.st6 hsl m3, grown_st6 Hg3.out (Nat.le_refl _) m3⟩
  simp [results, Try.results35, go_sem, *]
end Go.Proofs.Ytkbfocoaobiijaa
