/- Contracts of a map that seldom is none; no conditions beyond those that the theorems state. Contracts of drawn lists of maps; no conditions beyond those that the theorems state. Contracts of lists that seldom are none of generators; no conditions beyond those that the theorems state. Contracts of drawn generators; no conditions beyond those that the theorems state. Contracts of drawn generators with elements; no conditions beyond those that the theorems state. Contract of drawn generators with two elements; no conditions beyond those that the theorem states. Contracts of the draws of generators with elements; no conditions beyond those that the theorems state. Contracts of the draws of chapter 2; no conditions beyond those that the theorems state. -/
import Derived.Test.YtchjegojcpbfpaaGreatQE09
import Derived.Deep.DeepCutAuto
import Derived.Deep.CutBlock
set_option linter.unusedSimpArgs false
set_option linter.unusedVariables false
namespace Go.Proofs.YtchjegojcpbfpaaGreat
open Go.RowKit
set_option maxRecDepth 100000
set_option linter.unusedSimpArgs false
set_option linter.unusedVariables false
structure BG where
  j : Nat
  q : Nat
  v : Int
structure SB (w0 : World) (s : Nat) (A : Option Addr) (n c : Nat) (zs : List Int) (f : M) (b1 b5 b6 b9 : Bool) (o : BG) (w : World) : Prop where
  src : Src w s A n c zs
  gr : w0.grownBy w (some s)
  low : s < w0.heap.size
  two : w0.heap.size + 2 ≤ w.heap.size
  res : Blk w (w0.heap.size + 1) 31 (mc M0)
  own : ∃ m, Blk w w0.heap.size 31 (mc m) ∧ (b9 = false → m = f)
  h1 : b1 = true → o.j < 5
  h5 : b5 = true → b6 = false → OwI 2 w (w0.heap.size + 2) (.slice (some ⟨o.q, 0, none⟩) 3 3) [-1, f.p, 1099511627776]
section
variable {w0 w w' : World} {s : Nat} {A : Option Addr} {n c : Nat} {zs : List Int} {f : M} {b1 b5 b6 b9 : Bool} {o : BG}
theorem SB.next (h : SB w0 s A n c zs f b1 b5 b6 b9 o w) (hs : Src w' s A n c zs) (hg : w.grownBy w' (some s)) : SB w0 s A n c zs f b1 b5 b6 b9 o w' :=
  ⟨hs, grown_trans h.gr hg, h.low, Nat.le_trans h.two hg.size, h.res.grown hg (fun e => by have := h.low; injection e with e; omega),
    by obtain ⟨m, hm, he⟩ := h.own; exact ⟨m, hm.grown hg (fun e => by have := h.low; injection e with e; omega), he⟩, h.h1,
    fun e1 e2 => OwI.keep (h.h5 e1 e2) (fun q hq => hg.block q ((h.h5 e1 e2).lt q hq).2 (by have := ((h.h5 e1 e2).lt q hq).1; have := h.low; intro e; injection e with e; omega))⟩
theorem SB.pts (h : SB w0 s A n c zs f b1 b5 b6 false o w) : Blk w w0.heap.size 31 (mc f) := by
  obtain ⟨m, hm, he⟩ := h.own
  rwa [he rfl] at hm
theorem SB.do1 (h : SB w0 s A n c zs f false b5 b6 b9 o w) (hs : Src w' s A n c zs) (hg : w.grownBy w' (some s)) {j : Nat} (hj : j < 5) : SB w0 s A n c zs f true b5 b6 b9 { o with j := j } w' := by
  have k := h.next hs hg
  exact ⟨k.src, k.gr, k.low, k.two, k.res, k.own, fun _ => hj, k.h5⟩
theorem SB.do5 (h : SB w0 s A n c zs f b1 false false b9 o w) : SB w0 s A n c zs f b1 true false b9 { o with q := w.heap.size } (w.alloc (.cells (cI [-1, f.p, 1099511627776]).toArray 2)) := by
  have hb : Below w.heap.size w (w.alloc (.cells (cI [-1, f.p, 1099511627776]).toArray 2)) := (Below.refl _ _).alloc (Nat.le_refl _) _
  have k := h.next (h.src.below hb) (grown_below hb _)
  exact ⟨k.src, k.gr, k.low, k.two, k.res, k.own, k.h1, fun _ _ => OwI.lit w [-1, f.p, 1099511627776] rfl (by decide) h.two⟩
theorem SB.do6 (h : SB w0 s A n c zs f b1 true false b9 o w) (hs : Src w' s A n c zs) (hg : w.grownBy w' (some s)) (v : Int) : SB w0 s A n c zs f b1 true true b9 { o with v := v } w' := by
  have k := h.next hs hg
  exact ⟨k.src, k.gr, k.low, k.two, k.res, k.own, k.h1, by simp⟩
theorem SB.do9 (h : SB w0 s A n c zs f true true true false o w) : SB w0 s A n c zs f true true true true o (w.setCell ⟨w0.heap.size, 1 + o.j, none⟩ (I o.v)) := by
  have hj := h.h1 rfl
  exact ⟨h.src.cell_far h.low _, grown_far h.gr (Nat.le_refl _) _, h.low, by simpa [World.setCell] using h.two, h.res.far (by simp) _,
    ⟨_, (h.pts.set_ (1 + o.j) (I o.v)).cast (by rw [← mk'_eta f]; exact mc_set f.p f.at o.v hj), by simp⟩, h.h1, by simp⟩
end
set_option maxHeartbeats 400000 in
theorem bad_any {s : Nat} {A : Option Addr} {n c : Nat} {zs : List Int} (f : M) (w : World) (hS : Src w s A n c zs) :
    Calls Tryz.prog 121 #[.pointer (some ⟨s, 0, none⟩), .agg (mc f)] w (RetMp s A n c zs (fun _ => True) w) := by
  have HS := Lib.hid hS
  have hsl := hS.lt
  clear hS
  go_enter Tryz.func121, Tryz.ntmps121
  go_wp2_with fail
  have hb0 : Below w.heap.size w (w.alloc (.cells (mc f) 31)) := (Below.refl _ _).alloc (Nat.le_refl _) _
  have hb1 : Below w.heap.size w ((w.alloc (.cells (mc f) 31)).alloc (.cells (mc M0) 31)) := hb0.alloc (by simp) _
  have S0 : SB w s A n c zs f false false false false ⟨0, 0, 0⟩ ((w.alloc (.cells (mc f) 31)).alloc (.cells (mc M0) 31)) :=
    ⟨HS.out.below hb1, grown_below hb1 _, hsl, by simp, Blk.new' _ _ _ (by simp), ⟨f, (Blk.new w _ _).alloc _, fun _ => rfl⟩, by simp, by simp⟩
  refine (next_any 40 _ S0.src).mono ?_
  rintro e w1 ⟨r, rfl, hr, _, hS1, hg1⟩
  have D1 := Lib.hid (S0.next hS1 hg1)
  clear hr hS1 hg1 S0 hb0 hb1
  by_cases r0 : r = 0
  · subst r0
    obtain ⟨d0, _⟩ := D1.out.pts.six
    have l1 := D1.out.pts.lt
    obtain ⟨x, hx⟩ : ∃ x, x = wrap64 (f.p + 1) := ⟨_, rfl⟩
    go_wp2_with fail
    rw [← hx]
    have hb2 : Below w1.heap.size w1 (w1.alloc (.cells (cI [0, 6, -1, x]).toArray 2)) := (Below.refl _ _).alloc (Nat.le_refl _) _
    have S2 := D1.out.next (D1.out.src.below hb2) (grown_below hb2 _)
    refine (pick_any w1.heap.size 4 4 [0, 6, -1, x] _ S2.src (OwI.lit w1 [0, 6, -1, x] rfl (by decide) D1.out.src.lt) rfl (by decide) (by decide)).mono ?_
    rintro e w2 ⟨r, rfl, hr, hS2, hg2⟩
    have S3 := S2.next hS2 hg2
    have D3 := Lib.hid S3
    obtain ⟨d0, d1, d2, d3, d4, d5⟩ := S3.pts.six
    obtain ⟨y0, y1, y2, y3, y4, y5⟩ := S3.pts.fr6
    obtain ⟨e0, e1, e2, e3, e4, e5⟩ := S3.res.six
    obtain ⟨z0, z1, z2, z3, z4, z5⟩ := S3.res.fr6
    have hlo := Lib.hid S3.low
    clear hr hS2 hg2 hb2 S2 S3
    have HF : Hid (RetMp s A n c zs (fun _ => True) w (.returned (.agg (mc ⟨r, f.t0, f.t1, f.t2, f.t3, f.t4⟩))) (st6 (w2.setCell ⟨w.heap.size, 0, none⟩ (I r)) (w.heap.size + 1) ⟨r, f.t0, f.t1, f.t2, f.t3, f.t4⟩)) :=
      ⟨⟨r, f.t0, f.t1, f.t2, f.t3, f.t4⟩, rfl, trivial, Src.st6 (D3.out.src.cell_far (p := ⟨w.heap.size, 0, none⟩) hsl (I r)) (Nat.lt_succ_of_lt hsl) ⟨r, f.t0, f.t1, f.t2, f.t3, f.t4⟩, grown_st6 (grown_far (p := ⟨w.heap.size, 0, none⟩) D3.out.gr (Nat.le_refl _) (I r)) (Nat.le_succ _) ⟨r, f.t0, f.t1, f.t2, f.t3, f.t4⟩⟩
    clear D3 hlo
    go_wp2_with fail
    refine bodyPost_ret (v := .agg (mc ⟨r, f.t0, f.t1, f.t2, f.t3, f.t4⟩)) ?_ rfl HF.out
    simp [results, Tryz.results121, go_sem, *]
  by_cases r1 : r = 1
  · subst r1
    go_wp2_with fail
    refine wp_region_flags [] rfl (by kernel_rfl) (by kernel_rfl) [] (by kernel_rfl) _
      (fun o : BG => [.pointer (some ⟨s, 0, none⟩), I o.j, .pointer (some ⟨s, 0, none⟩), .pointer (some ⟨w.heap.size, 0, none⟩), I f.p, .slice (some ⟨o.q, 0, none⟩) 3 3, I o.v, .pointer (some ⟨w.heap.size, 1, none⟩), .pointer (some ⟨w.heap.size, 1 + o.j, none⟩), undef])
      (by intro o; simp only [putAll, List.setIfInBounds_toArray, List.set_cons_succ, List.set_cons_zero]; rfl)
      [] rfl _
      (by intro o; simp only [setAll, List.setIfInBounds_toArray, List.set_cons_succ, List.set_cons_zero]; rfl) (by kernel_rfl)
      (fun d o w' => SB w s A n c zs f (d 1) (d 5) (d 6) (d 9) o w')
      ⟨0, 0, 0⟩ (D1.out.next (D1.out.src.below (Below.refl _ _).drew) (grown_below (Below.refl _ _).drew _)) ?hop ?hQ
    case hop =>
      refine ⟨?_, ?_, ?_, ?_, ?_, ?_, ?_, ?_, ?_, ?_, trivial⟩
      · refine ⟨rfl, Flag.pure (fun _ _ _ h => h) fun d c w' hd hdeps hcl hS => ?_⟩
        skip
        clear hS hdeps hcl hd
        unfold Oper.wp
        go_simp
        exact ⟨rfl, fun t ht => by injection ht with ht; subst ht; rfl, rfl⟩
      · refine ⟨rfl, fun d o w' hd hdeps hcl hS => ?_⟩
        have hS : SB w s A n c zs f (d 1) (d 5) (d 6) (d 9) o w' := hS
        have d8 := hcl.down (k := 8) (j := 1) rfl (by kernel_rfl) hd
        rw [hd] at hS
        have HSB := Lib.hid hS
        clear hS hdeps hcl
        unfold Oper.wp
        go_simp
        refine (next_any 5 w' HSB.out.src).mono ?_
        rintro e w6 ⟨r, rfl, hr, _, hS6, hg6⟩
        obtain ⟨hr0, hr5⟩ := hr (by decide)
        obtain ⟨j, hj⟩ : ∃ j : Nat, (j : Int) = r := ⟨r.toNat, by omega⟩
        subst hj
        refine ⟨({ o with j := j } : BG), [(19, I j), (26, .pointer (some ⟨w.heap.size, 1 + j, none⟩))], ⟨rfl, fun t ht => by injection ht with ht; subst ht; rfl⟩, ?_, rfl, ?_⟩
        · exact HSB.out.do1 hS6 hg6 (by omega)
        · intro p hp
          simp at hp
          rcases hp with rfl | rfl
          · exact .inl rfl
          · exact .inr ⟨8, _, rfl, rfl, by decide, d8⟩
      · refine ⟨rfl, Flag.pure (fun _ _ _ h => h) fun d c w' hd hdeps hcl hS => ?_⟩
        skip
        clear hS hdeps hcl hd
        unfold Oper.wp
        go_simp
        exact ⟨rfl, fun t ht => by injection ht with ht; subst ht; rfl, rfl⟩
      · refine ⟨rfl, Flag.pure (fun _ _ _ h => h) fun d c w' hd hdeps hcl hS => ?_⟩
        skip
        clear hS hdeps hcl hd
        unfold Oper.wp
        go_simp
        exact ⟨rfl, fun t ht => by injection ht with ht; subst ht; rfl, rfl⟩
      · refine ⟨rfl, fun d o w' hd hdeps hcl hS => ?_⟩
        have hS : SB w s A n c zs f (d 1) (d 5) (d 6) (d 9) o w' := hS
        have d9 : d 9 = false := hcl.down (k := 9) (j := 6) rfl (by kernel_rfl) (hcl.down (k := 6) (j := 5) rfl (by kernel_rfl) (hcl.down (k := 5) (j := 4) rfl (by kernel_rfl) hd))
        have hS9 : SB w s A n c zs f (d 1) (d 5) (d 6) false o w' := by rw [← d9]; exact hS
        obtain ⟨c0, _⟩ := hS9.pts.six
        have Hs := Lib.hid hS
        clear hS hdeps hcl hd hS9
        unfold Oper.wp
        go_simp
        exact ⟨o, [], ⟨rfl, fun t ht => by injection ht with ht; subst ht; rfl⟩, Hs.out, rfl, by simp⟩
      · refine ⟨rfl, fun d o w' hd hdeps hcl hS => ?_⟩
        have hS : SB w s A n c zs f (d 1) (d 5) (d 6) (d 9) o w' := hS
        have d6 := hcl.down (k := 6) (j := 5) rfl (by kernel_rfl) hd
        rw [hd, d6] at hS
        have hS2 := Lib.hid hS.do5
        clear hS hdeps hcl
        unfold Oper.wp
        go_simp
        refine FlagPost.own ({ o with q := w'.heap.size } : BG) 23 (.slice (some ⟨w'.heap.size, 0, none⟩) 3 3) rfl rfl rfl ?_ rfl
        show SB _ _ _ _ _ _ _ (d 1) true (d 6) (d 9) _ _
        rw [d6]
        exact hS2.out
      · refine ⟨rfl, fun d o w' hd hdeps hcl hS => ?_⟩
        have hS : SB w s A n c zs f (d 1) (d 5) (d 6) (d 9) o w' := hS
        have d5 := hdeps 5 (by kernel_rfl)
        rw [hd, d5] at hS
        have HSB := Lib.hid hS
        clear hS hdeps hcl
        unfold Oper.wp
        go_simp
        refine (pick_any o.q 3 3 [-1, f.p, 1099511627776] w' HSB.out.src ((HSB.out.h5 rfl rfl).mono (by have := HSB.out.low; omega)) rfl (by decide) (by decide)).mono ?_
        rintro e w6 ⟨r, rfl, hr, hS6, hg6⟩
        refine FlagPost.own ({ o with v := r } : BG) 24 (I r) rfl rfl rfl ?_ rfl
        show SB _ _ _ _ _ _ _ (d 1) (d 5) true (d 9) _ _
        rw [d5]
        exact HSB.out.do6 hS6 hg6 r
      · refine ⟨rfl, Flag.pure (fun _ _ _ h => h) fun d c w' hd hdeps hcl hS => ?_⟩
        skip
        clear hS hdeps hcl hd
        unfold Oper.wp
        go_simp
        exact ⟨rfl, fun t ht => by injection ht with ht; subst ht; rfl, rfl⟩
      · refine ⟨rfl, fun d o w' hd hdeps hcl hS => ?_⟩
        have hS : SB w s A n c zs f (d 1) (d 5) (d 6) (d 9) o w' := hS
        have d1 := hdeps 1 (by kernel_rfl)
        have hj : o.j < 5 := hS.h1 d1
        have hjz : (o.j : Int) < 5 := by omega
        have Hs := Lib.hid hS
        clear hS hdeps hcl hd
        unfold Oper.wp
        go_simp
        exact ⟨o, [], ⟨rfl, fun t ht => by injection ht with ht; subst ht; rfl⟩, Hs.out, rfl, by simp⟩
      · refine ⟨rfl, fun d o w' hd hdeps hcl hS => ?_⟩
        have hS : SB w s A n c zs f (d 1) (d 5) (d 6) (d 9) o w' := hS
        have d8 := hdeps 8 (by kernel_rfl)
        have d6 := hdeps 6 (by kernel_rfl)
        have d1 := hcl.up (k := 8) (j := 1) rfl (by kernel_rfl) d8
        have d5 := hcl.up (k := 6) (j := 5) rfl (by kernel_rfl) d6
        rw [hd, d1, d5, d6] at hS
        have c3 := hS.pts.at_ (hS.h1 rfl)
        have z1 := hS.pts.frozen (1 + o.j)
        have Hs := Lib.hid hS.do9
        clear hS hdeps hcl
        unfold Oper.wp
        go_simp
        refine ⟨o, [], ⟨rfl, fun t ht => by cases ht⟩, ?_, rfl, by simp⟩
        show SB _ _ _ _ _ _ _ (d 1) (d 5) (d 6) true _ _
        rw [d1, d5, d6]
        exact Hs.out
    case hQ =>
    intro fl o we hall hS
    have hS : SB w s A n c zs f (fl 1) (fl 5) (fl 6) (fl 9) o we := hS
    have HS3 := Lib.hid hS
    obtain ⟨m, hm, _⟩ := hS.own
    obtain ⟨d0, d1, d2, d3, d4, d5⟩ := hm.six
    obtain ⟨e0, e1, e2, e3, e4, e5⟩ := hS.res.six
    obtain ⟨z0, z1, z2, z3, z4, z5⟩ := hS.res.fr6
    clear hS hall hm
    go_wp2_with fail
    refine bodyPost_ret (v := .agg (mc m)) ?_ rfl ⟨m, rfl, trivial, HS3.out.src.st6 (by omega) m, grown_st6 HS3.out.gr (by omega) m⟩
    simp [results, Tryz.results121, go_sem, *]
  obtain ⟨d0, d1, d2, d3, d4, d5⟩ := D1.out.pts.six
  obtain ⟨e0, e1, e2, e3, e4, e5⟩ := D1.out.res.six
  obtain ⟨z0, z1, z2, z3, z4, z5⟩ := D1.out.res.fr6
  go_wp2_with fail
  refine bodyPost_ret (v := .agg (mc f)) ?_ rfl ⟨f, rfl, trivial, D1.out.src.st6 (by omega) f, grown_st6 D1.out.gr (by omega) f⟩
  simp [results, Tryz.results121, go_sem, *]
theorem spoil_any {s : Nat} {A : Option Addr} {n c : Nat} {zs : List Int} (w : World) (hS : Src w s A n c zs) :
    Calls Tryz.prog 111 #[.pointer (some ⟨s, 0, none⟩)] w (RetMp s A n c zs (fun _ => True) w) := by
  have HS := Lib.hid hS
  have hsl := hS.lt
  clear hS
  go_enter Tryz.func111, Tryz.ntmps111
  go_wp2_with fail
  have hb0 : Below w.heap.size w (w.alloc (.cells (mc M0) 31)) := (Below.refl _ _).alloc (Nat.le_refl _) _
  have Hb := Lib.hid (Blk.new w 31 (mc M0))
  refine (draw_any _ (HS.out.below hb0)).mono ?_
  rintro e w2 ⟨m, rfl, _, hS2, hg2⟩
  have Hg2 := Lib.hid (grown_trans (grown_below hb0 _) hg2)
  have Hb2 := Lib.hid (Hb.out.grown hg2 (fun e => by injection e with e; omega))
  have HS2 := Lib.hid hS2
  clear hS2 hg2 hb0
  go_wp2_with fail
  refine (bad_any m w2 HS2.out).mono ?_
  rintro e w3 ⟨m3, rfl, _, hS3, hg3⟩
  have Hb3 := Hb2.out.grown hg3 (fun e => by injection e with e; omega)
  obtain ⟨e0, e1, e2, e3, e4, e5⟩ := Hb3.six
  obtain ⟨z0, z1, z2, z3, z4, z5⟩ := Hb3.fr6
  have HS3 := Lib.hid hS3
  have Hg3 := Lib.hid (grown_trans Hg2.out hg3)
  clear hS3 hg3 Hb3
  go_wp2_with fail
  refine bodyPost_ret (v := .agg (mc m3)) ?_ rfl ⟨m3, rfl, trivial, HS3.out.st6 hsl m3, grown_st6 Hg3.out (Nat.le_refl _) m3⟩
  simp [results, Tryz.results111, go_sem, *]
end Go.Proofs.YtchjegojcpbfpaaGreat

namespace Go.Proofs.YtchjegojcpbfpaaGreat
open Go.RowKit
set_option maxRecDepth 100000
set_option linter.unusedSimpArgs false
set_option linter.unusedVariables false
def RetL (B s : Nat) (A : Option Addr) (n c : Nat) (zs : List Int) (P : List M → Prop) (w : World) (e : Ending) (w' : World) : Prop :=
  ∃ (v : Value) (ms : List M), e = .returned v ∧ OwM 31 w' B v ms ∧ P ms ∧ Src w' s A n c zs ∧ w.grownBy w' (some s)
def LP (k : Nat) (ms : List M) : Prop := 1 ≤ ms.length ∧ ms.length ≤ 6 ∧ ∀ m ∈ ms, m.p = k
structure DL (w0 : World) (s : Nat) (A : Option Addr) (n c : Nat) (zs : List Int) (k j : Nat) (v : Value) (ms : List M) (w : World) : Prop where
  src : Src w s A n c zs
  gr : w0.grownBy w (some s)
  own : OwM 31 w w0.heap.size v ms
  low : s < w0.heap.size
  pts : ∀ m ∈ ms, m.p = k
  len : ms.length + j ≤ 6
  pos : 1 ≤ ms.length + j
section
variable {w0 w w' : World} {s : Nat} {A : Option Addr} {n c : Nat} {zs : List Int} {k j : Nat} {v : Value} {ms : List M}
theorem OwM.by_s {B : Nat} (h : OwM 31 w B v ms) (hg : w.grownBy w' (some s)) (hB : s < B) : OwM 31 w' B v ms :=
  h.keep fun q hq => hg.block q (h.lt q hq).2 (by have := (h.lt q hq).1; intro e; injection e with e; omega)
theorem DL.next (h : DL w0 s A n c zs k j v ms w) (hs : Src w' s A n c zs) (hg : w.grownBy w' (some s)) : DL w0 s A n c zs k j v ms w' :=
  ⟨hs, grown_trans h.gr hg, h.own.by_s hg h.low, h.low, h.pts, h.len, h.pos⟩
theorem DL.fin (h : DL w0 s A n c zs k 0 v ms w) : LP k ms := ⟨by have := h.pos; omega, by have := h.len; omega, h.pts⟩
theorem DL.cell (h : DL w0 s A n c zs k j v ms w) {q i : Nat} (hq : s < q) (hv : v.ownBlock ≠ some q) (u : Value) (hq0 : w0.heap.size ≤ q) : DL w0 s A n c zs k j v ms (w.setCell ⟨q, i, none⟩ u) :=
  ⟨h.src.cell_far (p := ⟨q, i, none⟩) hq u, grown_far (p := ⟨q, i, none⟩) h.gr hq0 u, h.own.far (p := ⟨q, i, none⟩) hv u, h.low, h.pts, h.len, h.pos⟩
theorem DL.push (h : DL w0 s A n c zs k (j + 1) v ms w) {v' : Value} {m : M} (hp : m.p = k) (hv : OwM 31 w' w0.heap.size v' (ms ++ [m])) (hg : w.grownBy w' v.ownBlock) : DL w0 s A n c zs k j v' (ms ++ [m]) w' :=
  have hne : ∀ q, v.ownBlock = some q → w0.heap.size ≤ q := fun q hq => (h.own.lt q hq).1
  ⟨h.src.grown hg (fun q hq => Nat.lt_of_lt_of_le h.low (hne q hq)),
    ⟨hg.os.trans h.gr.os, hg.tape.trans h.gr.tape, hg.output.trans h.gr.output, Nat.le_trans h.gr.size hg.size, fun q hq hs => (hg.block q (Nat.lt_of_lt_of_le hq h.gr.size) (fun e => by have := hne q e.symm; omega)).trans (h.gr.block q hq hs)⟩,
    hv, h.low, fun x hx => by
      rcases List.mem_append.1 hx with h' | h'
      · exact h.pts x h'
      · rw [List.mem_singleton] at h'; rw [h', hp], by have := h.len; simp; omega, by simp; omega⟩
theorem DL.alloc (h : DL w0 s A n c zs k j v ms w) (o : Obj) : DL w0 s A n c zs k j v ms (w.alloc o) :=
  have hb : Below w.heap.size w (w.alloc o) := (Below.refl _ _).alloc (Nat.le_refl _) o
  h.next (h.src.below hb) (grown_below hb _)
theorem DL.new_ne (h : DL w0 s A n c zs k j v ms w) : v.ownBlock ≠ some w.heap.size := fun e => by have := (h.own.lt _ e).2; omega
theorem DL.low2 (h : DL w0 s A n c zs k j v ms w) : w0.heap.size ≤ w.heap.size := h.gr.size
end
set_option maxHeartbeats 1000000 in
theorem drawList_five {s : Nat} {A : Option Addr} {n c : Nat} {zs : List Int} (w : World) (hS : Src w s A n c zs) :
    Calls Tryz.prog 122 #[.pointer (some ⟨s, 0, none⟩), .int .i64 (5 : Int)] w (RetL w.heap.size s A n c zs (LP 5) w) := by
  have HS := Lib.hid hS
  have hsl := hS.lt
  clear hS
  go_enter Tryz.func122, Tryz.ntmps122
  go_wp2_with fail
  have hb0 : Below w.heap.size w (w.alloc (.cells #[] 31)) := (Below.refl _ _).alloc (Nat.le_refl _) _
  have hb1 : Below w.heap.size w ((w.alloc (.cells #[] 31)).alloc (.cells (cI [1, 2, 3, 6]).toArray 2)) := hb0.alloc (by simp) _
  have ho := OwI.lit (e := 2) (B := s + 1) (w.alloc (.cells #[] 31)) [1, 2, 3, 6] (n := 4) rfl (by decide) (by simp; omega)
  rw [show (w.alloc (.cells #[] 31)).heap.size = w.heap.size + 1 by simp] at ho
  refine (pick_any (w.heap.size + 1) 4 4 [1, 2, 3, 6] _ (HS.out.below hb1) ho rfl (by decide) (by decide)).mono ?_
  rintro e w2 ⟨r, rfl, hr, hS2, hg2⟩
  have hr1 : 1 ≤ r ∧ r ≤ 6 := by
    simp only [List.mem_cons, List.not_mem_nil, or_false] at hr
    omega
  have ho2 := (OwM.made (e := 31) (w := w) (Nat.le_refl _)).alloc (.cells (cI [1, 2, 3, 6]).toArray 2)
  have HO := Lib.hid (ho2.by_s hg2 hsl)
  clear ho2
  have Hg := Lib.hid (grown_trans (grown_below hb1 _) hg2)
  have HS2 := Lib.hid hS2
  clear hr hS2 hg2 hb0 hb1 ho
  go_wp2_with fail
  refine (next_any r w2 HS2.out).mono ?_
  rintro e w3 ⟨x, rfl, hx, _, hS3, hg3⟩
  obtain ⟨hx0, hx6⟩ := hx (by omega)
  obtain ⟨y, hy⟩ : ∃ y : Nat, 1 + x = y := ⟨(1 + x).toNat, by omega⟩
  have hwy : wrap64 (1 + x) = (y : Int) := by rw [hy]; exact IntWalk.wrap64_in _ ⟨by omega, by omega⟩
  have D3 : Hid (DL w s A n c zs 5 y (.slice (some ⟨w.heap.size, 0, none⟩) 0 0) [] w3) := ⟨hS3, grown_trans Hg.out hg3, HO.out.by_s hg3 hsl, hsl, by simp, by simp; omega, by simp; omega⟩
  clear hx hS3 hg3 HO Hg HS2 hr1 hx0 hx6 hy
  go_wp2_with fail
  go_loopw [5, 6] (fun v t wr => ∃ (j : Nat) (A' : Option Addr) (q c' : Nat) (ms : List M), v = .slice A' q c' ∧ ms.length = q ∧ t = .int .i64 j ∧ DL w s A n c zs 5 j (.slice A' q c') ms wr) (fun _ t _ => (intOf t).toNat)
  case atStart => exact ⟨y, _, _, _, [], rfl, rfl, by rw [hwy], D3.out⟩
  case round =>
    clear D3 hwy
    obtain ⟨j, A', q, c', ms, rfl, hq, rfl, hD⟩ := hrel
    have D := Lib.hid hD
    have Hq := Lib.hid hq
    clear hD hq
    rcases j with _ | j
    · go_wp2_with fail
      go_ret
      exact ⟨_, ms, rfl, D.out.own, D.out.fin, D.out.src, D.out.gr⟩
    · have hjz : (((j + 1 : Nat) : Int)) > 0 := by omega
      have hwj : wrap64 (j : Int) = (j : Int) := IntWalk.wrap64_in _ (by have := D.out.len; exact ⟨by omega, by omega⟩)
      go_wp2_with fail
      refine (drawOf_any 5 (by decide) (by decide) wr D.out.src).mono ?_
      rintro e w4 ⟨m, rfl, hm, hS4, hg4⟩
      have D4 := Lib.hid (D.out.next hS4 hg4)
      have Hm := Lib.hid hm
      have D5 := Lib.hid (D4.out.alloc (.cells (mc m) 31))
      have B5 := Lib.hid (Blk.new w4 31 (mc m))
      have hlow4 := D4.out.low2
      have hne4 := Lib.hid D4.out.new_ne
      clear hS4 hg4 hm D
      go_wp2_with fail
      refine (next_any 3 _ D5.out.src).mono ?_
      rintro e w6 ⟨b, rfl, hb, _, hS6, hg6⟩
      have D6 := Lib.hid (D5.out.next hS6 hg6)
      have B6 := Lib.hid (B5.out.grown hg6 (fun e => by injection e with e; omega))
      obtain ⟨hb0, hb3⟩ := hb (by decide)
      clear hS6 hg6 hb D5 B5 D4
      obtain rfl | rfl | rfl : b = 0 ∨ b = 1 ∨ b = 2 := by omega
      · clear hb0 hb3
        obtain ⟨e0, e1, e2, e3, e4, e5⟩ := B6.out.six
        go_wp2_with (at_builtin; refine wpList_pushM rfl (.tmp 44) (.tmp 46) rfl w.heap.size (.slice A' q c') ms rfl (D6.out.own.alloc _) q Hq.out (w6.heap.size) 1 m rfl (Blk.six (Blk.new' _ _ _ (by simp))) (by have := D6.out.len; have := Hq.out; omega) (by have := D6.out.low2; first | omega | (simp at *; omega)) (w6.heap.size + 1) (by simp) ?_; intro g' cap w9 ho' hgr hg' hlt'; have D9 := Lib.hid ((D6.out.alloc (.cells (mc m) 31)).push Hm.out ho' hgr); clear ho' hgr hg' hlt')
        have HL : Hid ((ms ++ [m]).length = q + 1) := by show _ = _; rw [List.length_append, Hq.out]; rfl
        clear Hq Hm
        go_roundw
        case rel => exact ⟨j, some ⟨g', 0, none⟩, q + 1, cap, ms ++ [m], rfl, HL.out, by rw [hwj], D9.out⟩
        case measure => rw [hwj]; simp [intOf]
      all_goals
        clear hb0 hb3
        go_wp2_with fail
        go_loopw [8] (fun t wq => ∃ (i : Nat) (m : M), t = .int .i64 i ∧ i ≤ 5 ∧ DL w s A n c zs 5 (j + 1) (.slice A' q c') ms wq ∧ Blk wq w4.heap.size 31 (mc m) ∧ m.p = (5 : Nat)) (fun t _ => 5 - (intOf t).toNat)
        case atStart => exact ⟨0, m, rfl, Nat.zero_le _, D6.out, B6.out, Hm.out⟩
        case round =>
          clear D6 B6 Hm
          obtain ⟨i, m, rfl, hi, hD, hB, hm⟩ := hrel
          have D7 := Lib.hid hD
          have B7 := Lib.hid hB
          have Hm := Lib.hid hm
          clear hD hB hm
          by_cases hi5 : i < 5
          · have hiz : (i : Int) < 5 := by omega
            have c3 := B7.out.at_ hi5
            have z1 := B7.out.frozen (1 + i)
            go_wp2_with fail
            refine ⟨⟨i + 1, M.mk' m.p fun q => if q = i then (if (i : Int) < m.at i then (i : Int) else m.at i) else m.at q, by go_num, hi5, ?_, ?_, Hm.out⟩, by simp [intOf]; omega⟩
            · exact D7.out.cell (Nat.lt_of_lt_of_le hsl hlow4) hne4.out _ hlow4
            · refine (B7.out.set_ (1 + i) _).cast ?_
              have e : (if (i : Int) < m.at i then (i : Int) else m.at i) = min (m.at i) (i : Int) := by rw [Int.min_def]; split <;> split <;> omega
              first
                | (rw [← mk'_eta m]; exact mc_set m.p m.at _ hi5)
                | (rw [e, ← mk'_eta m]; exact mc_set m.p m.at _ hi5)
          · have hiz : ¬ ((i : Int) < 5) := by omega
            obtain ⟨e0, e1, e2, e3, e4, e5⟩ := B7.out.six
            go_wp2_with (at_builtin; refine wpList_pushM rfl (.tmp 44) (.tmp 46) rfl w.heap.size (.slice A' q c') ms rfl (D7.out.own.alloc _) q Hq.out (wr.heap.size) 1 m rfl (Blk.six (Blk.new' _ _ _ (by simp))) (by have := D7.out.len; have := Hq.out; omega) (by have := D7.out.low2; first | omega | (simp at *; omega)) (wr.heap.size + 1) (by simp) ?_; intro g' cap w9 ho' hgr hg' hlt'; have D9 := Lib.hid ((D7.out.alloc (.cells (mc m) 31)).push Hm.out ho' hgr); clear ho' hgr hg' hlt')
            have HL : Hid ((ms ++ [m]).length = q + 1) := by show _ = _; rw [List.length_append, Hq.out]; rfl
            clear Hq Hm
            refine ⟨⟨j, some ⟨g', 0, none⟩, q + 1, cap, ms ++ [m], rfl, HL.out, by rw [hwj], D9.out⟩, ?_⟩
            rw [hwj]
            simp [intOf]
set_option maxHeartbeats 1000000 in
theorem drawList_four {s : Nat} {A : Option Addr} {n c : Nat} {zs : List Int} (k : Nat) (h1 : 1 ≤ k) (h5 : k ≤ 4) (w : World) (hS : Src w s A n c zs) :
    Calls Tryz.prog 122 #[.pointer (some ⟨s, 0, none⟩), .int .i64 (k : Int)] w (RetL w.heap.size s A n c zs (LP k) w) := by
  have HS := Lib.hid hS
  have hsl := hS.lt
  clear hS
  go_enter Tryz.func122, Tryz.ntmps122
  go_wp2_with fail
  have hb0 : Below w.heap.size w (w.alloc (.cells #[] 31)) := (Below.refl _ _).alloc (Nat.le_refl _) _
  have hb1 : Below w.heap.size w ((w.alloc (.cells #[] 31)).alloc (.cells (cI [1, 2, 3, 6]).toArray 2)) := hb0.alloc (by simp) _
  have ho := OwI.lit (e := 2) (B := s + 1) (w.alloc (.cells #[] 31)) [1, 2, 3, 6] (n := 4) rfl (by decide) (by simp; omega)
  rw [show (w.alloc (.cells #[] 31)).heap.size = w.heap.size + 1 by simp] at ho
  refine (pick_any (w.heap.size + 1) 4 4 [1, 2, 3, 6] _ (HS.out.below hb1) ho rfl (by decide) (by decide)).mono ?_
  rintro e w2 ⟨r, rfl, hr, hS2, hg2⟩
  have hr1 : 1 ≤ r ∧ r ≤ 6 := by
    simp only [List.mem_cons, List.not_mem_nil, or_false] at hr
    omega
  have ho2 := (OwM.made (e := 31) (w := w) (Nat.le_refl _)).alloc (.cells (cI [1, 2, 3, 6]).toArray 2)
  have HO := Lib.hid (ho2.by_s hg2 hsl)
  clear ho2
  have Hg := Lib.hid (grown_trans (grown_below hb1 _) hg2)
  have HS2 := Lib.hid hS2
  clear hr hS2 hg2 hb0 hb1 ho
  go_wp2_with fail
  refine (next_any r w2 HS2.out).mono ?_
  rintro e w3 ⟨x, rfl, hx, _, hS3, hg3⟩
  obtain ⟨hx0, hx6⟩ := hx (by omega)
  obtain ⟨y, hy⟩ : ∃ y : Nat, 1 + x = y := ⟨(1 + x).toNat, by omega⟩
  have hwy : wrap64 (1 + x) = (y : Int) := by rw [hy]; exact IntWalk.wrap64_in _ ⟨by omega, by omega⟩
  have D3 : Hid (DL w s A n c zs k y (.slice (some ⟨w.heap.size, 0, none⟩) 0 0) [] w3) := ⟨hS3, grown_trans Hg.out hg3, HO.out.by_s hg3 hsl, hsl, by simp, by simp; omega, by simp; omega⟩
  clear hx hS3 hg3 HO Hg HS2 hr1 hx0 hx6 hy
  go_wp2_with fail
  go_loopw [5, 6] (fun v t wr => ∃ (j : Nat) (A' : Option Addr) (q c' : Nat) (ms : List M), v = .slice A' q c' ∧ ms.length = q ∧ t = .int .i64 j ∧ DL w s A n c zs k j (.slice A' q c') ms wr) (fun _ t _ => (intOf t).toNat)
  case atStart => exact ⟨y, _, _, _, [], rfl, rfl, by rw [hwy], D3.out⟩
  case round =>
    clear D3 hwy
    obtain ⟨j, A', q, c', ms, rfl, hq, rfl, hD⟩ := hrel
    have D := Lib.hid hD
    have Hq := Lib.hid hq
    clear hD hq
    rcases j with _ | j
    · go_wp2_with fail
      go_ret
      exact ⟨_, ms, rfl, D.out.own, D.out.fin, D.out.src, D.out.gr⟩
    · have hjz : (((j + 1 : Nat) : Int)) > 0 := by omega
      have hwj : wrap64 (j : Int) = (j : Int) := IntWalk.wrap64_in _ (by have := D.out.len; exact ⟨by omega, by omega⟩)
      go_wp2_with fail
      refine (drawOf_any k h1 (by omega) wr D.out.src).mono ?_
      rintro e w4 ⟨m, rfl, hm, hS4, hg4⟩
      have D4 := Lib.hid (D.out.next hS4 hg4)
      have Hm := Lib.hid hm
      have D5 := Lib.hid (D4.out.alloc (.cells (mc m) 31))
      have B5 := Lib.hid (Blk.new w4 31 (mc m))
      have hlow4 := D4.out.low2
      have hne4 := Lib.hid D4.out.new_ne
      clear hS4 hg4 hm D
      have hk5 : ¬ ((k : Int) = 5) := by omega
      obtain ⟨e0, e1, e2, e3, e4, e5⟩ := B5.out.six
      go_wp2_with (at_builtin; refine wpList_pushM rfl (.tmp 44) (.tmp 46) rfl w.heap.size (.slice A' q c') ms rfl (D5.out.own.alloc _) q Hq.out (w4.heap.size + 1) 1 m rfl (Blk.six (Blk.new' _ _ _ (by simp))) (by have := D5.out.len; have := Hq.out; omega) (by have := D5.out.low2; first | omega | (simp at *; omega)) (w4.heap.size + 1 + 1) (by simp) ?_; intro g' cap w9 ho' hgr hg' hlt'; have D9 := Lib.hid ((D5.out.alloc (.cells (mc m) 31)).push Hm.out ho' hgr); clear ho' hgr hg' hlt')
      have HL : Hid ((ms ++ [m]).length = q + 1) := by show _ = _; rw [List.length_append, Hq.out]; rfl
      clear Hq Hm
      go_roundw
      case rel => exact ⟨j, some ⟨g', 0, none⟩, q + 1, cap, ms ++ [m], rfl, HL.out, by rw [hwj], D9.out⟩
      case measure => rw [hwj]; simp [intOf]
theorem drawList_any {s : Nat} {A : Option Addr} {n c : Nat} {zs : List Int} (k : Nat) (h1 : 1 ≤ k) (h5 : k ≤ 5) (w : World) (hS : Src w s A n c zs) :
    Calls Tryz.prog 122 #[.pointer (some ⟨s, 0, none⟩), I k] w (RetL w.heap.size s A n c zs (LP k) w) := by
  rcases Nat.lt_or_ge 4 k with h | h
  · obtain rfl : k = 5 := by omega
    exact drawList_five w hS
  · exact drawList_four k h1 h w hS
end Go.Proofs.YtchjegojcpbfpaaGreat

namespace Go.Proofs.YtchjegojcpbfpaaGreat
open Go.RowKit
set_option maxRecDepth 100000
set_option linter.unusedSimpArgs false
set_option linter.unusedVariables false
theorem lists_any {s : Nat} {A : Option Addr} {n c : Nat} {zs : List Int} (w : World) (hS : Src w s A n c zs) :
    Calls Tryz.prog 90 #[.pointer (some ⟨s, 0, none⟩)] w (RetL w.heap.size s A n c zs (fun ms => ∃ k : Nat, 1 ≤ k ∧ k ≤ 5 ∧ LP k ms) w) := by
  have HS := Lib.hid hS
  have hsl := hS.lt
  clear hS
  go_enter Tryz.func90, Tryz.ntmps90
  go_wp2_with fail
  have hb1 : Below w.heap.size w (w.alloc (.cells (cI [1, 2, 2, 3, 3, 3, 4, 4, 5]).toArray 2)) := (Below.refl _ _).alloc (Nat.le_refl _) _
  have ho := OwI.lit (e := 2) (B := s + 1) w [1, 2, 2, 3, 3, 3, 4, 4, 5] (n := 9) rfl (by decide) hsl
  refine (pick_any w.heap.size 9 9 [1, 2, 2, 3, 3, 3, 4, 4, 5] _ (HS.out.below hb1) ho rfl (by decide) (by decide)).mono ?_
  rintro e w2 ⟨r, rfl, hr, hS2, hg2⟩
  obtain ⟨k, rfl, hk1, hk5⟩ : ∃ k : Nat, r = k ∧ 1 ≤ k ∧ k ≤ 5 := by
    simp only [List.mem_cons, List.not_mem_nil, or_false] at hr
    exact ⟨r.toNat, by omega, by omega, by omega⟩
  have Hg := Lib.hid (grown_trans (grown_below hb1 _) hg2)
  have HS2 := Lib.hid hS2
  clear hr hS2 hg2 hb1 ho
  go_wp2_with fail
  refine (drawList_any k hk1 hk5 w2 HS2.out).mono ?_
  rintro e w3 ⟨v, ms, rfl, ho, hp, hS3, hg3⟩
  have Ho := Lib.hid ho
  have HS3 := Lib.hid hS3
  have Hg3 := Lib.hid (grown_trans Hg.out hg3)
  have Hp := Lib.hid hp
  clear hS3 hg3 ho hp
  go_wp2_with fail
  go_ret
  exact ⟨v, ms, rfl, Ho.out.mono Hg.out.size, ⟨k, hk1, hk5, Hp.out⟩, HS3.out, Hg3.out⟩
structure BL where
  j : Nat
  m : M
structure SL (w0 : World) (s : Nat) (A : Option Addr) (n c : Nat) (zs : List Int) (v1 v5 : Value) (q : Nat) (ms : List M) (b4 b11 : Bool) (o : BL) (w : World) : Prop where
  src : Src w s A n c zs
  gr : w0.grownBy w (some s)
  low : s < w0.heap.size
  lst : b11 = false → (∃ B, s < B ∧ OwM 31 w B v1 ms) ∧ ∀ g, v1.ownBlock = some g → g < w0.heap.size
  own : ∃ ls, OwM 31 w w0.heap.size v5 ls ∧ ls.length = q
  h4 : b4 = true → o.j < q
section
variable {w0 w w' : World} {s : Nat} {A : Option Addr} {n c : Nat} {zs : List Int} {v1 v5 : Value} {q : Nat} {ms : List M} {b4 b11 : Bool} {o : BL}
theorem SL.next (h : SL w0 s A n c zs v1 v5 q ms b4 b11 o w) (hs : Src w' s A n c zs) (hg : w.grownBy w' (some s)) : SL w0 s A n c zs v1 v5 q ms b4 b11 o w' :=
  ⟨hs, grown_trans h.gr hg, h.low, fun e => ⟨by obtain ⟨B, h1, h2⟩ := (h.lst e).1; exact ⟨B, h1, h2.by_s hg h1⟩, (h.lst e).2⟩, by obtain ⟨ls, h1, h2⟩ := h.own; exact ⟨ls, h1.by_s hg h.low, h2⟩, h.h4⟩
theorem SL.do4 (h : SL w0 s A n c zs v1 v5 q ms false b11 o w) (hs : Src w' s A n c zs) (hg : w.grownBy w' (some s)) {j : Nat} (hj : j < q) : SL w0 s A n c zs v1 v5 q ms true b11 { o with j := j } w' := by
  have k := h.next hs hg
  exact ⟨k.src, k.gr, k.low, k.lst, k.own, fun _ => hj⟩
theorem SL.do9 (h : SL w0 s A n c zs v1 v5 q ms b4 b11 o w) (hs : Src w' s A n c zs) (hg : w.grownBy w' (some s)) (m : M) : SL w0 s A n c zs v1 v5 q ms b4 b11 { o with m := m } w' := by
  have k := h.next hs hg
  exact ⟨k.src, k.gr, k.low, k.lst, k.own, k.h4⟩
theorem Src.st6at (h : Src w s A n c zs) {q : Nat} (hq : s < q) (o : Nat) (m : M) : Src (Go.Proofs.YtchjegojcpbfpaaGreat.st6at w q o m) s A n c zs :=
  (((((h.cell_far (p := ⟨q, o, none⟩) hq _).cell_far (p := ⟨q, o + 1, none⟩) hq _).cell_far (p := ⟨q, o + 2, none⟩) hq _).cell_far (p := ⟨q, o + 3, none⟩) hq _).cell_far (p := ⟨q, o + 4, none⟩) hq _).cell_far (p := ⟨q, o + 5, none⟩) hq _
theorem grown_st6at {w0 w : World} {row : Option Nat} (h : w0.grownBy w row) {q : Nat} (hq : w0.heap.size ≤ q) (o : Nat) (m : M) : w0.grownBy (st6at w q o m) row :=
  grown_far (p := ⟨q, o + 5, none⟩) (grown_far (p := ⟨q, o + 4, none⟩) (grown_far (p := ⟨q, o + 3, none⟩) (grown_far (p := ⟨q, o + 2, none⟩) (grown_far (p := ⟨q, o + 1, none⟩) (grown_far (p := ⟨q, o, none⟩) h hq _) hq _) hq _) hq _) hq _) hq _
theorem SL.do11 {g5 n5 c5 : Nat} (h : SL w0 s A n c zs v1 (.slice (some ⟨g5, 0, none⟩) n5 c5) q ms true false o w) : SL w0 s A n c zs v1 (.slice (some ⟨g5, 0, none⟩) n5 c5) q ms true true o (st6at w g5 (o.j * 6) o.m) := by
  have hj := h.h4 rfl
  obtain ⟨ls, h1, h2⟩ := h.own
  obtain ⟨hgB, hgl, h6, hfr, hs⟩ := h1.spotAt (k := o.j) (by rw [h2]; exact hj)
  exact ⟨h.src.st6at (Nat.lt_of_lt_of_le h.low hgB) _ _, grown_st6at h.gr hgB _ _, h.low, by simp, ⟨_, hs o.m, by rw [List.length_set, h2]⟩, h.h4⟩
end
theorem ownB {g n c q : Nat} (h : (Value.slice (some ⟨g, 0, none⟩) n c).ownBlock = some q) : g = q := by injection h
def RetGB (B s : Nat) (A : Option Addr) (n c : Nat) (zs : List Int) (w : World) (e : Ending) (w' : World) : Prop := RetL B s A n c zs (fun ms => ms.length ≤ 7) w e w'
theorem OwM.sub {w0 w w' : World} {s : Nat} {v : Value} (h : w0.grownBy w (some s)) (hg : w.grownBy w' v.ownBlock) (hv : ∀ q, v.ownBlock = some q → w0.heap.size ≤ q) : w0.grownBy w' (some s) :=
  ⟨hg.os.trans h.os, hg.tape.trans h.tape, hg.output.trans h.output, Nat.le_trans h.size hg.size, fun q hq hs => (hg.block q (Nat.lt_of_lt_of_le hq h.size) (fun e => by have := hv q e.symm; omega)).trans (h.block q hq hs)⟩
set_option maxHeartbeats 1000000 in
theorem badList_any {s : Nat} {A : Option Addr} {n c : Nat} {zs : List Int} (v1 : Value) (ms : List M) (w : World) (hS : Src w s A n c zs) (B : Nat) (hB : s < B) (hB2 : B ≤ w.heap.size) (hv : OwM 31 w B v1 ms) (h1 : 1 ≤ ms.length) (h6 : ms.length ≤ 6) :
    Calls Tryz.prog 89 #[.pointer (some ⟨s, 0, none⟩), v1] w (RetGB B s A n c zs w) := by
  have HS := Lib.hid hS
  have hsl := hS.lt
  obtain ⟨g1, c1, rfl, _⟩ := hv.spot (k := 0) h1
  have hr : RdM w w.heap.size (some ⟨g1, 0, none⟩) ms := by
    obtain ⟨A2, c2, e, hr⟩ := hv.form
    injection e with e1 e2 e3
    rw [e1]; exact hr
  obtain ⟨n1, hn1⟩ : ∃ n1, n1 = ms.length := ⟨_, rfl⟩
  rw [← hn1] at hv h1 h6 ⊢
  have Hn := Lib.hid hn1
  have Hv := Lib.hid hv
  have Hr := Lib.hid hr
  have hlt := hv.lt g1 rfl
  clear hS hv hn1 hr
  go_enter Tryz.func89, Tryz.ntmps89
  go_wp2_with (at_builtin; refine wpList_catM rfl (.tmp 6) (.tmp 7) rfl w.heap.size _ [] ms rfl (OwM.made (Nat.le_refl _)) (some ⟨g1, 0, none⟩) n1 c1 rfl (fun h => by cases h) (Rd.more (Rd.alloc Hr.out (Nat.le_refl _) _) (by simp)) Hn.out.symm (by simp; omega) (by simp) ?_; intro v5 w1 ho' hgr; have Ho1 := Lib.hid ho'; have Hb1 := Lib.hid ((OwM.made (e := 31) (Nat.le_refl w.heap.size)).bel ((Below.refl w.heap.size w).alloc (Nat.le_refl _) (.cells #[] 31)) hgr (Nat.le_refl _) (by simp)); clear ho' hgr)
  refine (next_any 40 _ (HS.out.below Hb1.out)).mono ?_
  rintro e w2 ⟨r, rfl, hr, _, hS2, hg2⟩
  have HS2 := Lib.hid hS2
  have Hg2 := Lib.hid (grown_trans (grown_below Hb1.out _) hg2)
  have hz2 := Hg2.out.size
  have Hv2 := Lib.hid ((Hv.out.below Hb1.out (Nat.le_refl _)).by_s hg2 hB)
  have ho2 := Ho1.out.by_s hg2 hsl
  rw [List.nil_append] at ho2
  obtain ⟨g5, c5, rfl, hg5, _⟩ := ho2.spot (k := 0) (by rw [← Hn.out]; exact h1)
  rw [← Hn.out] at ho2 ⊢
  have Ho2 := Lib.hid ho2
  have hr0 := (hr (by decide)).1
  clear hr hS2 hg2 Hb1 Ho1 ho2
  by_cases r0 : r = 0
  · subst r0
    go_wp2_with fail
    go_ret
    have hb3 : Below w2.heap.size w2 (w2.alloc (.cells #[] 31)) := (Below.refl _ _).alloc (Nat.le_refl _) _
    exact ⟨_, [], rfl, OwM.made (Nat.le_trans hB2 hz2), by simp, HS2.out.below hb3, grown_trans Hg2.out (grown_below hb3 _)⟩
  by_cases r1 : r = 1
  · subst r1
    go_wp2_with fail
    refine (spoil_any w2 HS2.out).mono ?_
    rintro e w3 ⟨m, rfl, _, hS3, hg3⟩
    have Ho3 := Lib.hid (Ho2.out.by_s hg3 hsl)
    have Hg3 := Lib.hid (grown_trans Hg2.out hg3)
    have HS3 := Lib.hid hS3
    have hz3 := Hg3.out.size
    clear hS3 hg3
    go_wp2_with (at_builtin; refine wpList_pushM rfl (.tmp 16) (.tmp 19) rfl w.heap.size (.slice (some ⟨g5, 0, none⟩) n1 c5) ms rfl (Ho3.out.alloc _) n1 Hn.out.symm w3.heap.size 1 m rfl (Blk.six (Blk.new _ _ _)) (by omega) (by simp; omega) (w3.heap.size + 1) (by simp) ?_; intro g' cap w9 ho' hgr hg' hlt'; have Ho9 := Lib.hid ho'; have Hgr := Lib.hid hgr; clear ho' hgr hg' hlt')
    go_ret
    have hb3 : Below w3.heap.size w3 (w3.alloc (.cells (mc m) 31)) := (Below.refl _ _).alloc (Nat.le_refl _) _
    refine ⟨_, ms ++ [m], rfl, Ho9.out.mono hB2, by simp; have := Hn.out; omega, (HS3.out.below hb3).grown Hgr.out (fun q hq => ?_), OwM.sub (grown_trans Hg3.out (grown_below hb3 _)) Hgr.out (fun q hq => ?_)⟩
    · have := ownB hq; omega
    · have := ownB hq; omega
  by_cases r2 : r = 2
  · subst r2
    have hne : g1 ≠ g5 := by omega
    go_wp2_with fail
    go_loopw [5] (fun v wr => ∃ (g q c' : Nat) (ls : List M), v = .slice (some ⟨g, 0, none⟩) q c' ∧ ls.length = q ∧ q ≤ 7 ∧ OwM 31 wr w.heap.size (.slice (some ⟨g, 0, none⟩) q c') ls ∧ OwM 31 wr B (.slice (some ⟨g1, 0, none⟩) n1 c1) ms ∧ Src wr s A n c zs ∧ w.grownBy wr (some s)) (fun v _ => match v with | .slice _ q _ => 8 - q | _ => 0)
    case atStart => exact ⟨g5, n1, c5, ms, rfl, Hn.out.symm, by omega, Ho2.out, Hv2.out, HS2.out, Hg2.out⟩
    case round =>
      clear Ho2 Hv2 HS2 Hg2
      obtain ⟨g, q, c', ls, rfl, hl, hq, ho, hv, hS, hg⟩ := hrel
      have HS := Lib.hid hS
      have Ho := Lib.hid ho
      have Hl := Lib.hid hl
      have Hg := Lib.hid hg
      have Hv := Lib.hid hv
      have hz := hg.size
      have hgg := ho.lt g rfl
      clear hS ho hl hg hv
      by_cases hq7 : q < 7
      · have hqz : (q : Int) ≤ 6 := by omega
        obtain ⟨_, hgl, h6, _⟩ := Hv.out.spotAt (k := 0) (by rw [← Hn.out]; exact h1)
        rw [Nat.zero_mul] at h6
        obtain ⟨x0, x1, x2, x3, x4, x5⟩ := h6
        obtain ⟨m, hm⟩ : ∃ m, m = gm ms 0 := ⟨_, rfl⟩
        rw [← hm] at x0 x1 x2 x3 x4 x5
        clear hm
        go_wp2_with (at_builtin; refine wpList_pushM rfl (.tmp 26) (.tmp 30) rfl w.heap.size (.slice (some ⟨g, 0, none⟩) q c') ls rfl (Ho.out.alloc _) q Hl.out wr.heap.size 1 m rfl (Blk.six (Blk.new _ _ _)) (by omega) (by simp; omega) (wr.heap.size + 1) (by simp) ?_; intro g' cap w9 ho' hgr hg' hlt'; have Ho9 := Lib.hid ho'; have Hgr := Lib.hid hgr; clear ho' hgr hg' hlt')
        have hb3 : Below wr.heap.size wr (wr.alloc (.cells (mc m) 31)) := (Below.refl _ _).alloc (Nat.le_refl _) _
        have HG : Hid (w.grownBy w9 (some s)) := OwM.sub (grown_trans Hg.out (grown_below hb3 _)) Hgr.out (fun q hq => by have := ownB hq; omega)
        have HSS : Hid (Src w9 s A n c zs) := (HS.out.below hb3).grown Hgr.out (fun q hq => by have := ownB hq; omega)
        have HVV : Hid (OwM 31 w9 B (.slice (some ⟨g1, 0, none⟩) n1 c1) ms) := (Hv.out.below hb3 (Nat.le_refl _)).keep (fun q hq => Hgr.out.block q (Nat.lt_of_lt_of_le (by have := ownB hq; omega) hb3.size) (by have := ownB hq; intro e; injection e with e; have e : q = g := e; omega))
        have HL : Hid ((ls ++ [m]).length = q + 1) := by show _ = _; rw [List.length_append, Hl.out]; rfl
        clear hb3 Hgr Ho Hv Hl HS Hg
        go_roundw
        case rel => exact ⟨g', q + 1, cap, ls ++ [m], rfl, HL.out, by omega, Ho9.out, HVV.out, HSS.out, HG.out⟩
        case measure => simp; omega
      · have hqz : ¬ ((q : Int) ≤ 6) := by omega
        go_wp2_with fail
        go_ret
        exact ⟨_, ls, rfl, Ho.out.mono hB2, by have := Hl.out; omega, HS.out, Hg.out⟩
  by_cases r3 : r = 3
  · subst r3
    have D1 : Hid (SL w s A n c zs (.slice (some ⟨g1, 0, none⟩) n1 c1) (.slice (some ⟨g5, 0, none⟩) n1 c5) n1 ms false false ⟨0, M0⟩ w2) :=
      ⟨HS2.out, Hg2.out, hsl, fun _ => ⟨⟨B, hB, Hv2.out⟩, fun q hq => by have := ownB hq; omega⟩, ⟨ms, Ho2.out, Hn.out.symm⟩, by simp⟩
    have Hlen : Hid (0 < ms.length) := by show 0 < ms.length; rw [← Hn.out]; exact h1
    have h1z : (0 : Int) < (n1 : Int) := by omega
    clear Hv2 Ho2 HS2 Hg2
    go_wp2_with fail
    refine wp_region_flags [] rfl (by kernel_rfl) (by kernel_rfl) [] (by kernel_rfl) _
      (fun o : BL => [.slice (some ⟨g5, 0, none⟩) n1 c5, .pointer (some ⟨s, 0, none⟩), .slice (some ⟨g5, 0, none⟩) n1 c5, I n1, I o.j, .pointer (some ⟨s, 0, none⟩), .slice (some ⟨g1, 0, none⟩) n1 c1, .pointer (some ⟨g1, 0, none⟩), .agg (mc (gm ms 0)), .agg (mc o.m), .pointer (some ⟨g5, o.j * 6, none⟩), undef])
      (by intro o; simp only [putAll, List.setIfInBounds_toArray, List.set_cons_succ, List.set_cons_zero]; rfl)
      [] rfl _
      (by intro o; simp only [setAll, List.setIfInBounds_toArray, List.set_cons_succ, List.set_cons_zero]; rfl) (by kernel_rfl)
      (fun d o w' => SL w s A n c zs (.slice (some ⟨g1, 0, none⟩) n1 c1) (.slice (some ⟨g5, 0, none⟩) n1 c5) n1 ms (d 4) (d 11) o w')
      ⟨0, M0⟩ (D1.out.next (D1.out.src.below (Below.refl _ _).drew) (grown_below (Below.refl _ _).drew _)) ?hop ?hQ
    case hop =>
      refine ⟨?_, ?_, ?_, ?_, ?_, ?_, ?_, ?_, ?_, ?_, ?_, ?_, trivial⟩
      · refine ⟨rfl, Flag.pure (fun _ _ _ h => h) fun d c w' hd hdeps hcl hS => ?_⟩
        skip
        clear hS hdeps hcl hd
        unfold Oper.wp
        go_simp
        exact ⟨rfl, fun t ht => by injection ht with ht; subst ht; rfl, rfl⟩
      · refine ⟨rfl, Flag.pure (fun _ _ _ h => h) fun d c w' hd hdeps hcl hS => ?_⟩
        skip
        clear hS hdeps hcl hd
        unfold Oper.wp
        go_simp
        exact ⟨rfl, fun t ht => by injection ht with ht; subst ht; rfl, rfl⟩
      · refine ⟨rfl, Flag.pure (fun _ _ _ h => h) fun d c w' hd hdeps hcl hS => ?_⟩
        skip
        clear hS hdeps hcl hd
        unfold Oper.wp
        go_simp
        exact ⟨rfl, fun t ht => by injection ht with ht; subst ht; rfl, rfl⟩
      · refine ⟨rfl, Flag.pure (fun _ _ _ h => h) fun d c w' hd hdeps hcl hS => ?_⟩
        skip
        clear hS hdeps hcl hd
        unfold Oper.wp
        go_simp
        exact ⟨rfl, fun t ht => by injection ht with ht; subst ht; rfl, rfl⟩
      · refine ⟨rfl, fun d o w' hd hdeps hcl hS => ?_⟩
        have hS : SL w s A n c zs (.slice (some ⟨g1, 0, none⟩) n1 c1) (.slice (some ⟨g5, 0, none⟩) n1 c5) n1 ms (d 4) (d 11) o w' := hS
        have d10 := hcl.down (k := 10) (j := 4) rfl (by kernel_rfl) hd
        rw [hd] at hS
        have HSB := Lib.hid hS
        clear hS hdeps hcl
        unfold Oper.wp
        go_simp
        refine (next_any n1 w' HSB.out.src).mono ?_
        rintro e w6 ⟨r, rfl, hr, _, hS6, hg6⟩
        obtain ⟨hr0, hr5⟩ := hr (by omega)
        obtain ⟨j, hj⟩ : ∃ j : Nat, (j : Int) = r := ⟨r.toNat, by omega⟩
        subst hj
        refine ⟨({ o with j := j } : BL), [(39, I j), (45, .pointer (some ⟨g5, j * 6, none⟩))], ⟨rfl, fun t ht => by injection ht with ht; subst ht; rfl⟩, ?_, rfl, ?_⟩
        · exact HSB.out.do4 hS6 hg6 (by omega)
        · intro p hp
          simp at hp
          rcases hp with rfl | rfl
          · exact .inl rfl
          · exact .inr ⟨10, _, rfl, rfl, by decide, d10⟩
      · refine ⟨rfl, Flag.pure (fun _ _ _ h => h) fun d c w' hd hdeps hcl hS => ?_⟩
        skip
        clear hS hdeps hcl hd
        unfold Oper.wp
        go_simp
        exact ⟨rfl, fun t ht => by injection ht with ht; subst ht; rfl, rfl⟩
      · refine ⟨rfl, Flag.pure (fun _ _ _ h => h) fun d c w' hd hdeps hcl hS => ?_⟩
        skip
        clear hS hdeps hcl hd
        unfold Oper.wp
        go_simp
        exact ⟨rfl, fun t ht => by injection ht with ht; subst ht; rfl, rfl⟩
      · refine ⟨rfl, Flag.pure (fun _ _ _ h => h) fun d c w' hd hdeps hcl hS => ?_⟩
        have h1p : 0 < n1 := by omega
        clear hS hdeps hcl hd
        unfold Oper.wp
        go_simp
        exact ⟨rfl, fun t ht => by injection ht with ht; subst ht; rfl, rfl⟩
      · refine ⟨rfl, fun d o w' hd hdeps hcl hS => ?_⟩
        have hS : SL w s A n c zs (.slice (some ⟨g1, 0, none⟩) n1 c1) (.slice (some ⟨g5, 0, none⟩) n1 c5) n1 ms (d 4) (d 11) o w' := hS
        have d11 : d 11 = false := hcl.down (k := 11) (j := 9) rfl (by kernel_rfl) (hcl.down (k := 9) (j := 8) rfl (by kernel_rfl) hd)
        obtain ⟨_, _, hlo⟩ := (hS.lst d11).1
        obtain ⟨_, hgl, h6, _⟩ := hlo.spotAt (k := 0) Hlen.out
        clear hlo
        rw [Nat.zero_mul] at h6
        obtain ⟨x0, x1, x2, x3, x4, x5⟩ := h6
        have Hs := Lib.hid hS
        clear hS hdeps hcl hd d11
        unfold Oper.wp
        go_simp
        exact ⟨o, [], ⟨rfl, fun t ht => by injection ht with ht; subst ht; rfl⟩, Hs.out, rfl, by simp⟩
      · refine ⟨rfl, fun d o w' hd hdeps hcl hS => ?_⟩
        have hS : SL w s A n c zs (.slice (some ⟨g1, 0, none⟩) n1 c1) (.slice (some ⟨g5, 0, none⟩) n1 c5) n1 ms (d 4) (d 11) o w' := hS
        have HSB := Lib.hid hS
        clear hS hdeps hcl
        unfold Oper.wp
        go_simp
        refine (bad_any (gm ms 0) w' HSB.out.src).mono ?_
        rintro e w6 ⟨m, rfl, _, hS6, hg6⟩
        refine FlagPost.own ({ o with m := m } : BL) 44 (.agg (mc m)) rfl rfl rfl ?_ rfl
        exact HSB.out.do9 hS6 hg6 m
      · refine ⟨rfl, fun d o w' hd hdeps hcl hS => ?_⟩
        have hS : SL w s A n c zs (.slice (some ⟨g1, 0, none⟩) n1 c1) (.slice (some ⟨g5, 0, none⟩) n1 c5) n1 ms (d 4) (d 11) o w' := hS
        have d4 := hdeps 4 (by kernel_rfl)
        have hj : o.j < n1 := hS.h4 d4
        have hjz : (o.j : Int) < (n1 : Int) := by omega
        have Hs := Lib.hid hS
        clear hS hdeps hcl hd
        unfold Oper.wp
        go_simp
        exact ⟨o, [], ⟨rfl, fun t ht => by injection ht with ht; subst ht; rfl⟩, Hs.out, rfl, by simp⟩
      · refine ⟨rfl, fun d o w' hd hdeps hcl hS => ?_⟩
        have hS : SL w s A n c zs (.slice (some ⟨g1, 0, none⟩) n1 c1) (.slice (some ⟨g5, 0, none⟩) n1 c5) n1 ms (d 4) (d 11) o w' := hS
        have d10 := hdeps 10 (by kernel_rfl)
        have d4 := hcl.up (k := 10) (j := 4) rfl (by kernel_rfl) d10
        rw [hd, d4] at hS
        obtain ⟨ls, hw1, hw2⟩ := hS.own
        obtain ⟨_, hgl, h6, hfr, _⟩ := hw1.spotAt (k := o.j) (by rw [hw2]; exact hS.h4 rfl)
        obtain ⟨x0, x1, x2, x3, x4, x5⟩ := h6
        have z0 := hfr (o.j * 6)
        have z1 := hfr (o.j * 6 + 1)
        have z2 := hfr (o.j * 6 + 2)
        have z3 := hfr (o.j * 6 + 3)
        have z4 := hfr (o.j * 6 + 4)
        have z5 := hfr (o.j * 6 + 5)
        have Hs := Lib.hid hS.do11
        clear hS hdeps hcl hw1 hw2 hfr
        unfold Oper.wp
        go_simp
        refine ⟨o, [], ⟨rfl, fun t ht => by cases ht⟩, ?_, rfl, by simp⟩
        show SL _ _ _ _ _ _ _ _ _ _ (d 4) true _ _
        rw [d4]
        exact Hs.out
    case hQ =>
    intro fl o we hall hS
    have hS : SL w s A n c zs (.slice (some ⟨g1, 0, none⟩) n1 c1) (.slice (some ⟨g5, 0, none⟩) n1 c5) n1 ms (fl 4) (fl 11) o we := hS
    have HS3 := Lib.hid hS
    clear hS hall
    go_wp2_with fail
    go_ret
    obtain ⟨ls, hw1, hw2⟩ := HS3.out.own
    exact ⟨_, ls, rfl, hw1.mono hB2, by omega, HS3.out.src, HS3.out.gr⟩
  have h40 : ¬ (r < 0) := by omega
  go_wp2_with fail
  go_ret
  exact ⟨_, ms, rfl, Hv2.out, by have := Hn.out; omega, HS2.out, Hg2.out⟩
theorem l02Draw_any {s : Nat} {A : Option Addr} {n c : Nat} {zs : List Int} (w : World) (hS : Src w s A n c zs) :
    Calls Tryz.prog 47 #[.pointer (some ⟨s, 0, none⟩)] w (RetGB w.heap.size s A n c zs w) := by
  have HS := Lib.hid hS
  have hsl := hS.lt
  clear hS
  go_enter Tryz.func47, Tryz.ntmps47
  go_wp2_with fail
  refine (lists_any w HS.out).mono ?_
  rintro e w2 ⟨v, ms, rfl, ho, ⟨k, _, _, hp⟩, hS2, hg2⟩
  have Hg := Lib.hid hg2
  have HS2 := Lib.hid hS2
  have Ho := Lib.hid ho
  have hp1 := hp.1
  have hp2 := hp.2.1
  clear hS2 hg2 ho hp
  go_wp2_with fail
  refine (badList_any v ms w2 HS2.out w.heap.size hsl Hg.out.size Ho.out hp1 hp2).mono ?_
  rintro e w3 ⟨v, ms, rfl, ho, hp, hS3, hg3⟩
  have Ho := Lib.hid ho
  have HS3 := Lib.hid hS3
  have Hg3 := Lib.hid (grown_trans Hg.out hg3)
  have Hp := Lib.hid hp
  clear hS3 hg3 ho hp
  go_wp2_with fail
  go_ret
  exact ⟨v, ms, rfl, Ho.out, Hp.out, HS3.out, Hg3.out⟩
end Go.Proofs.YtchjegojcpbfpaaGreat

namespace Go.Proofs.YtchjegojcpbfpaaGreat
open Go.RowKit
set_option maxRecDepth 100000
set_option linter.unusedSimpArgs false
set_option linter.unusedVariables false
def LQ (ms : List M) : Prop := ∃ k : Nat, 1 ≤ k ∧ k ≤ 5 ∧ LP k ms
theorem LQ.len {ms : List M} (h : LQ ms) : 1 ≤ ms.length ∧ ms.length ≤ 6 := by
  obtain ⟨k, _, _, h1, h2, _⟩ := h
  exact ⟨h1, h2⟩
theorem OwM.rdM {w : World} {B n c : Nat} {A : Option Addr} {ms : List M} (h : OwM 31 w B (.slice A n c) ms) : RdM w w.heap.size A ms := by
  obtain ⟨A2, c2, e, hr⟩ := h.form
  injection e with e1 e2 e3
  rw [e1]; exact hr
def RetGD (w : World) (e : Ending) (w' : World) : Prop := ∃ (A : Option Addr) (n c : Nat) (ms : List M), e = .returned (.slice A n c) ∧ n = ms.length ∧ OwM 31 w' w.heap.size (.slice A n c) ms ∧ n ≤ 7 ∧ Below w.heap.size w w'
theorem RetL.d {B s : Nat} {A : Option Addr} {n c : Nat} {zs : List Int} {w w1 w2 : World} {e : Ending} (h : RetGB B s A n c zs w1 e w2) (hBw : w.heap.size ≤ B) (hl : s < w1.heap.size) (hs : w.heap.size ≤ s) (hb : Below w.heap.size w w1) : RetGD w e w2 := by
  obtain ⟨v, ms, rfl, ho, hp, _, hg⟩ := h
  obtain ⟨A1, c1, rfl, _⟩ := ho.form
  exact ⟨A1, ms.length, c1, ms, rfl, rfl, ho.mono hBw, hp, hb.trans ((bel_s hg (Nat.le_of_lt hl)).mono hs)⟩
end Go.Proofs.YtchjegojcpbfpaaGreat

namespace Go.Proofs.YtchjegojcpbfpaaGreat
open Go.RowKit
set_option maxRecDepth 100000
set_option linter.unusedSimpArgs false
set_option linter.unusedVariables false
theorem RdM.by_s {w w' : World} {s : Nat} {A : Option Addr} {n c : Nat} {zs : List Int} {L : Option Addr} {ms : List M} (h : RdM w w.heap.size L ms) (hS : Src w s A n c zs) (hg : w.grownBy w' (some s)) : RdM w' w'.heap.size L ms := by
  refine ⟨h.1, fun hn => ?_⟩
  obtain ⟨b, off, e, hb, hc⟩ := h.2 hn
  have hne : b ≠ s := by
    rintro rfl
    obtain ⟨a, x, _, _, hbl⟩ := hS.blk
    have h5 : 5 < (mcs ms).length := by rw [mcs_length]; omega
    have := hc 5 _ (List.getElem?_eq_getElem h5)
    rw [hbl.cell, Array.getElem?_eq_none (by simp)] at this
    cases this
  exact ⟨b, off, e, Nat.lt_of_lt_of_le hb hg.size, fun j u hu => (World.cell?_of_block (hg.block b hb (fun e => hne (by injection e with e)))).trans (hc j u hu)⟩
structure WS (w0 : World) (s : Nat) (A : Option Addr) (n c : Nat) (zs : List Int) (v5 : Value) (ms : List M) (q6 q7 : Nat) (f g : M) (w : World) : Prop where
  src : Src w s A n c zs
  gr : w0.grownBy w (some s)
  low : s < w0.heap.size
  lst : OwM 31 w (w0.heap.size + 2) v5 ms
  far : ∀ b, v5.ownBlock = some b → b < q6 ∧ b < q7
  c3 : Blk w w0.heap.size 31 (mc M0)
  c4 : Blk w (w0.heap.size + 1) 31 (mc M0)
  c6 : Blk w q6 31 (mc f)
  c7 : Blk w q7 31 (mc g)
  h6 : w0.heap.size + 2 ≤ q6
  h7 : w0.heap.size + 2 ≤ q7
  ne : q6 ≠ q7
section
variable {w0 w w' : World} {s : Nat} {A : Option Addr} {n c : Nat} {zs : List Int} {v5 : Value} {ms : List M} {q6 q7 : Nat} {f g : M}
theorem OwM.st6f {B : Nat} {v : Value} (h : OwM 31 w B v ms) {q : Nat} (hq : v.ownBlock ≠ some q) (m : M) : OwM 31 (Go.Proofs.YtchjegojcpbfpaaGreat.st6 w q m) B v ms :=
  (((((h.far (p := ⟨q, 0, none⟩) hq _).far (p := ⟨q, 1, none⟩) hq _).far (p := ⟨q, 2, none⟩) hq _).far (p := ⟨q, 3, none⟩) hq _).far (p := ⟨q, 4, none⟩) hq _).far (p := ⟨q, 5, none⟩) hq _
theorem Blk.st6f {b : Nat} {t : TypeId} {cs : Array Value} (h : Blk w b t cs) {q : Nat} (hq : b ≠ q) (m : M) : Blk (Go.Proofs.YtchjegojcpbfpaaGreat.st6 w q m) b t cs :=
  (((((h.far (p := ⟨q, 0, none⟩) hq _).far (p := ⟨q, 1, none⟩) hq _).far (p := ⟨q, 2, none⟩) hq _).far (p := ⟨q, 3, none⟩) hq _).far (p := ⟨q, 4, none⟩) hq _).far (p := ⟨q, 5, none⟩) hq _
theorem WS.next (h : WS w0 s A n c zs v5 ms q6 q7 f g w) (hs : Src w' s A n c zs) (hg : w.grownBy w' (some s)) : WS w0 s A n c zs v5 ms q6 q7 f g w' :=
  have hl := h.low
  have h6 := h.h6
  have h7 := h.h7
  ⟨hs, grown_trans h.gr hg, h.low, h.lst.by_s hg (by omega), h.far, h.c3.grown hg (fun e => by injection e with e; omega), h.c4.grown hg (fun e => by injection e with e; omega), h.c6.grown hg (fun e => by injection e with e; omega), h.c7.grown hg (fun e => by injection e with e; omega), h.h6, h.h7, h.ne⟩
theorem WS.below (h : WS w0 s A n c zs v5 ms q6 q7 f g w) (hb : Below w.heap.size w w') : WS w0 s A n c zs v5 ms q6 q7 f g w' := h.next (h.src.below hb) (grown_below hb _)
end
structure RG where
  q6 : Nat
  q7 : Nat
structure SR (w1 : World) (f g : M) (b9 b10 b11 b12 : Bool) (o : RG) (w : World) : Prop where
  bel : Below w1.heap.size w1 w
  c6 : b9 = true → Blk w o.q6 31 (mc (if b11 then f else M0)) ∧ w1.heap.size ≤ o.q6
  c7 : b10 = true → Blk w o.q7 31 (mc (if b12 then g else M0)) ∧ w1.heap.size ≤ o.q7
  ne : b9 = true → b10 = true → o.q6 ≠ o.q7
section
variable {w1 w w' : World} {f g : M} {b9 b10 b11 b12 : Bool} {o : RG}
theorem SR.do9 (h : SR w1 f g false b10 false b12 o w) : SR w1 f g true b10 false b12 { o with q6 := w.heap.size } (w.alloc (.cells (mc M0) 31)) :=
  ⟨h.bel.alloc h.bel.size _, fun _ => ⟨Blk.new w _ _, h.bel.size⟩, fun e => ⟨(h.c7 e).1.alloc _, (h.c7 e).2⟩, fun _ e => by have := (h.c7 e).1.lt; show w.heap.size ≠ o.q7; omega⟩
theorem SR.do10 (h : SR w1 f g b9 false b11 false o w) : SR w1 f g b9 true b11 false { o with q7 := w.heap.size } (w.alloc (.cells (mc M0) 31)) :=
  ⟨h.bel.alloc h.bel.size _, fun e => ⟨(h.c6 e).1.alloc _, (h.c6 e).2⟩, fun _ => ⟨Blk.new w _ _, h.bel.size⟩, fun e _ => by have := (h.c6 e).1.lt; show o.q6 ≠ w.heap.size; omega⟩
theorem SR.do11 (h : SR w1 f g true true false b12 o w) : SR w1 f g true true true b12 o (st6 w o.q6 f) :=
  ⟨below_st6 h.bel (h.c6 rfl).2 f, fun _ => ⟨(h.c6 rfl).1.st6 f, (h.c6 rfl).2⟩, fun e => ⟨(h.c7 e).1.st6f (Ne.symm (h.ne rfl rfl)) f, (h.c7 e).2⟩, h.ne⟩
theorem SR.do12 (h : SR w1 f g true true b11 false o w) : SR w1 f g true true b11 true o (st6 w o.q7 g) :=
  ⟨below_st6 h.bel (h.c7 rfl).2 g, fun e => ⟨(h.c6 e).1.st6f (h.ne rfl rfl) g, (h.c6 e).2⟩, fun _ => ⟨(h.c7 rfl).1.st6 g, (h.c7 rfl).2⟩, h.ne⟩
end
structure EG where
  A : Option Addr
  q : Nat
  c : Nat
  m3 : M
  m4 : M
structure SE (w0 : World) (s : Nat) (A : Option Addr) (n c : Nat) (zs : List Int) (v5 : Value) (ms : List M) (q6 q7 : Nat) (f g : M) (b2 b10 b11 : Bool) (o : EG) (w : World) : Prop where
  src : Src w s A n c zs
  gr : w0.grownBy w (some s)
  low : s < w0.heap.size
  lst : b2 = false → OwM 31 w (w0.heap.size + 2) v5 ms
  new : b2 = true → ∃ ls, OwM 31 w (w0.heap.size + 2) (.slice o.A o.q o.c) ls ∧ o.q = ls.length ∧ o.q ≤ 7
  c3 : Blk w w0.heap.size 31 (mc (if b10 then o.m3 else M0))
  c4 : Blk w (w0.heap.size + 1) 31 (mc (if b11 then o.m4 else M0))
  c6 : Blk w q6 31 (mc f)
  c7 : Blk w q7 31 (mc g)
  h6 : w0.heap.size + 2 ≤ q6
  h7 : w0.heap.size + 2 ≤ q7
section
variable {w0 w w' : World} {s : Nat} {A : Option Addr} {n c : Nat} {zs : List Int} {v5 : Value} {ms : List M} {q6 q7 : Nat} {f g : M} {b2 b10 b11 : Bool} {o : EG}
theorem SE.next (h : SE w0 s A n c zs v5 ms q6 q7 f g b2 b10 b11 o w) (hs : Src w' s A n c zs) (hg : w.grownBy w' (some s)) : SE w0 s A n c zs v5 ms q6 q7 f g b2 b10 b11 o w' :=
  have hl := h.low
  have h6 := h.h6
  have h7 := h.h7
  ⟨hs, grown_trans h.gr hg, h.low, fun e => (h.lst e).by_s hg (by omega), fun e => by obtain ⟨ls, h1, h2⟩ := h.new e; exact ⟨ls, h1.by_s hg (by omega), h2⟩,
    h.c3.grown hg (fun e => by injection e with e; omega), h.c4.grown hg (fun e => by injection e with e; omega), h.c6.grown hg (fun e => by injection e with e; omega), h.c7.grown hg (fun e => by injection e with e; omega), h.h6, h.h7⟩
theorem SE.do2 (h : SE w0 s A n c zs v5 ms q6 q7 f g false b10 b11 o w) (hs : Src w' s A n c zs) (hg : w.grownBy w' (some s)) {ls : List M} {A' : Option Addr} {q c' : Nat} (ho : OwM 31 w' (w0.heap.size + 2) (.slice A' q c') ls) (hq : q = ls.length) (h7 : q ≤ 7) :
    SE w0 s A n c zs v5 ms q6 q7 f g true b10 b11 { o with A := A', q := q, c := c' } w' := by
  have k := h.next hs hg
  exact ⟨k.src, k.gr, k.low, by simp, fun _ => ⟨ls, ho, hq, h7⟩, k.c3, k.c4, k.c6, k.c7, k.h6, k.h7⟩
theorem SE.do5 (h : SE w0 s A n c zs v5 ms q6 q7 f g b2 false b11 o w) (hs : Src w' s A n c zs) (hg : w.grownBy w' (some s)) (m : M) : SE w0 s A n c zs v5 ms q6 q7 f g b2 false b11 { o with m3 := m } w' := by
  have k := h.next hs hg
  exact ⟨k.src, k.gr, k.low, k.lst, k.new, k.c3, k.c4, k.c6, k.c7, k.h6, k.h7⟩
theorem OwM.no {B : Nat} {v : Value} (h : OwM 31 w B v ms) {q : Nat} (hq : q < B) : v.ownBlock ≠ some q := fun e => by have := (h.lt _ e).1; omega
theorem SE.do10 (h : SE w0 s A n c zs v5 ms q6 q7 f g b2 false b11 o w) : SE w0 s A n c zs v5 ms q6 q7 f g b2 true b11 o (st6 w w0.heap.size o.m3) :=
  have h6 := h.h6
  have h7 := h.h7
  ⟨h.src.st6 h.low _, grown_st6 h.gr (Nat.le_refl _) _, h.low, fun e => (h.lst e).st6f ((h.lst e).no (by omega)) _, fun e => by obtain ⟨ls, h1, h2⟩ := h.new e; exact ⟨ls, h1.st6f (h1.no (by omega)) _, h2⟩,
    h.c3.st6 _, h.c4.st6f (by omega) _, h.c6.st6f (by omega) _, h.c7.st6f (by omega) _, h.h6, h.h7⟩
theorem SE.do11 (h : SE w0 s A n c zs v5 ms q6 q7 f g b2 b10 false o w) : SE w0 s A n c zs v5 ms q6 q7 f g b2 b10 true o (st6 w (w0.heap.size + 1) o.m4) :=
  have h6 := h.h6
  have h7 := h.h7
  have hl := h.low
  ⟨h.src.st6 (by omega) _, grown_st6 h.gr (by omega) _, h.low, fun e => (h.lst e).st6f ((h.lst e).no (by omega)) _, fun e => by obtain ⟨ls, h1, h2⟩ := h.new e; exact ⟨ls, h1.st6f (h1.no (by omega)) _, h2⟩,
    h.c3.st6f (by omega) _, h.c4.st6 _, h.c6.st6f (by omega) _, h.c7.st6f (by omega) _, h.h6, h.h7⟩
end
end Go.Proofs.YtchjegojcpbfpaaGreat

namespace Go.Proofs.YtchjegojcpbfpaaGreat
open Go.RowKit
set_option maxRecDepth 100000
set_option linter.unusedSimpArgs false
set_option linter.unusedVariables false
theorem elR_pos {ms xs : List M} (h : elC ms xs = 0) : 0 < (elR ms xs).length := by
  obtain ⟨E, ps, hE⟩ := elC_el h
  rw [hE.r]; exact hE.pos
end Go.Proofs.YtchjegojcpbfpaaGreat

namespace Go.Proofs.YtchjegojcpbfpaaGreat
open Go.RowKit
set_option maxRecDepth 100000
set_option linter.unusedSimpArgs false
set_option linter.unusedVariables false
def RetD1 (w : World) (e : Ending) (w' : World) : Prop :=
  ∃ (A : Option Addr) (q c : Nat) (ls : List M) (f : M), e = .returned (.tuple #[.slice A q c, .agg (mc f)]) ∧ q = ls.length ∧ OwM 31 w' w.heap.size (.slice A q c) ls ∧ q ≤ 7 ∧ Below w.heap.size w w'
structure SD1 (w0 : World) (v : Value) (ms : List M) (q5 : Nat) (f : M) (b3 : Bool) (w : World) : Prop where
  bel : Below w0.heap.size w0 w
  lst : OwM 31 w (w0.heap.size + 1) v ms
  c3 : Blk w w0.heap.size 31 (mc (if b3 then f else M0))
  c5 : Blk w q5 31 (mc f)
  h5 : w0.heap.size + 1 ≤ q5
theorem SD1.do3 {w0 w : World} {v : Value} {ms : List M} {q5 : Nat} {f : M} (h : SD1 w0 v ms q5 f false w) : SD1 w0 v ms q5 f true (st6 w w0.heap.size f) :=
  have h5 := h.h5
  ⟨below_st6 h.bel (Nat.le_refl _) f, h.lst.st6f (h.lst.no (by omega)) f, h.c3.st6 f, h.c5.st6f (by omega) f, h.h5⟩
structure SD2 (w0 : World) (v : Value) (ms : List M) (q6 q7 : Nat) (f g : M) (b3 b4 : Bool) (w : World) : Prop where
  bel : Below w0.heap.size w0 w
  lst : OwM 31 w (w0.heap.size + 2) v ms
  c3 : Blk w w0.heap.size 31 (mc (if b3 then f else M0))
  c4 : Blk w (w0.heap.size + 1) 31 (mc (if b4 then g else M0))
  c6 : Blk w q6 31 (mc f)
  c7 : Blk w q7 31 (mc g)
  h6 : w0.heap.size + 2 ≤ q6
  h7 : w0.heap.size + 2 ≤ q7
section
variable {w0 w : World} {v : Value} {ms : List M} {q6 q7 : Nat} {f g : M} {b3 b4 : Bool}
theorem SD2.do3 (h : SD2 w0 v ms q6 q7 f g false b4 w) : SD2 w0 v ms q6 q7 f g true b4 (st6 w w0.heap.size f) :=
  have h6 := h.h6
  have h7 := h.h7
  ⟨below_st6 h.bel (Nat.le_refl _) f, h.lst.st6f (h.lst.no (by omega)) f, h.c3.st6 f, h.c4.st6f (by omega) f, h.c6.st6f (by omega) f, h.c7.st6f (by omega) f, h.h6, h.h7⟩
theorem SD2.do4 (h : SD2 w0 v ms q6 q7 f g b3 false w) : SD2 w0 v ms q6 q7 f g b3 true (st6 w (w0.heap.size + 1) g) :=
  have h6 := h.h6
  have h7 := h.h7
  ⟨below_st6 h.bel (by omega) g, h.lst.st6f (h.lst.no (by omega)) g, h.c3.st6f (by omega) g, h.c4.st6 g, h.c6.st6f (by omega) g, h.c7.st6f (by omega) g, h.h6, h.h7⟩
end
structure SD3 (w0 : World) (s : Nat) (A : Option Addr) (n c : Nat) (zs : List Int) (v : Value) (ms : List M) (q6 q7 : Nat) (f g : M) (b4 b6 b7 : Bool) (w : World) : Prop where
  sd : SD2 w0 v ms q6 q7 f g b6 b7 w
  src : b4 = false → Src w s A n c zs
  low : w0.heap.size + 2 ≤ s
  lt : s < q6 ∧ s < q7
  nb : v.ownBlock ≠ some s
section
variable {w0 w w' : World} {s : Nat} {A : Option Addr} {n c : Nat} {zs : List Int} {v : Value} {ms : List M} {q6 q7 : Nat} {f g : M} {b4 b6 b7 : Bool}
theorem SD3.next (h : SD3 w0 s A n c zs v ms q6 q7 f g false b6 b7 w) (hs : Src w' s A n c zs) (hg : w.grownBy w' (some s)) (b4 : Bool) : SD3 w0 s A n c zs v ms q6 q7 f g b4 b6 b7 w' :=
  have hl := h.low
  have h6 := h.lt.1
  have h7 := h.lt.2
  ⟨⟨h.sd.bel.trans ((bel_s hg (Nat.le_of_lt (h.src rfl).lt)).mono (by omega)), h.sd.lst.keep (fun q hq => hg.block q (h.sd.lst.lt q hq).2 (fun e => h.nb (by rw [hq]; exact e))), h.sd.c3.grown hg (fun e => by injection e with e; omega), h.sd.c4.grown hg (fun e => by injection e with e; omega), h.sd.c6.grown hg (fun e => by injection e with e; omega), h.sd.c7.grown hg (fun e => by injection e with e; omega), h.sd.h6, h.sd.h7⟩, fun _ => hs, h.low, h.lt, h.nb⟩
theorem SD3.do6 (h : SD3 w0 s A n c zs v ms q6 q7 f g true false b7 w) : SD3 w0 s A n c zs v ms q6 q7 f g true true b7 (st6 w w0.heap.size f) :=
  ⟨h.sd.do3, by simp, h.low, h.lt, h.nb⟩
theorem SD3.do7 (h : SD3 w0 s A n c zs v ms q6 q7 f g true b6 false w) : SD3 w0 s A n c zs v ms q6 q7 f g true b6 true (st6 w (w0.heap.size + 1) g) :=
  ⟨h.sd.do4, by simp, h.low, h.lt, h.nb⟩
end
end Go.Proofs.YtchjegojcpbfpaaGreat

namespace Go.Proofs.YtchjegojcpbfpaaGreat
open Go.RowKit
set_option maxRecDepth 100000
set_option linter.unusedSimpArgs false
set_option linter.unusedVariables false
theorem DrawUnitsOf_any {A : Option Addr} {n c : Nat} {zs : List Int} (w : World) (hx : RdU w w.heap.size A zs) (hn : zs.length = n) (hb : n < 4611686018427387904) :
    Calls Tryz.prog 6 #[.slice A n c] w (RetGD w) := by
  have HF := Lib.hid (from_any (A := A) (n := n) (c := c) w hx hn hb)
  clear hx hn hb
  go_enter Tryz.func6, Tryz.ntmps6
  go_wp2_with fail
  refine HF.out.mono ?_
  rintro e w1 ⟨s, rfl, hs, hS1, hb1⟩
  have HS1 := Lib.hid hS1
  have Hb1 := Lib.hid hb1
  clear hS1 hb1 HF
  go_wp2_with fail
  refine (l02Draw_any w1 HS1.out).mono ?_
  intro e w2 h2
  obtain ⟨A3, n3, c3, ms3, rfl, h1, h2, h3, h4⟩ := RetL.d h2 Hb1.out.size HS1.out.lt hs Hb1.out
  have H : Hid (RetGD w (.returned (.slice A3 n3 c3)) w2) := ⟨A3, n3, c3, ms3, rfl, h1, h2, h3, h4⟩
  clear h1 h2 h3 h4
  go_wp2_with fail
  go_ret
  exact H.out
theorem DrawLeastGenerating_any {A : Option Addr} {n c : Nat} {zs : List Int} (w : World) (hx : RdU w w.heap.size A zs) (hn : zs.length = n) (hb : n < 4611686018427387904) :
    Calls Tryz.prog 22 #[.slice A n c] w (RetGD w) := by
  have HF := Lib.hid (from_any (A := A) (n := n) (c := c) w hx hn hb)
  clear hx hn hb
  go_enter Tryz.func22, Tryz.ntmps22
  go_wp2_with fail
  refine HF.out.mono ?_
  rintro e w1 ⟨s, rfl, hs, hS1, hb1⟩
  have HS1 := Lib.hid hS1
  have Hb1 := Lib.hid hb1
  clear hS1 hb1 HF
  go_wp2_with fail
  refine (l02Draw_any w1 HS1.out).mono ?_
  intro e w2 h2
  obtain ⟨A3, n3, c3, ms3, rfl, h1, h2, h3, h4⟩ := RetL.d h2 Hb1.out.size HS1.out.lt hs Hb1.out
  have H : Hid (RetGD w (.returned (.slice A3 n3 c3)) w2) := ⟨A3, n3, c3, ms3, rfl, h1, h2, h3, h4⟩
  clear h1 h2 h3 h4
  go_wp2_with fail
  go_ret
  exact H.out
def RetDB (w : World) (e : Ending) (w' : World) : Prop :=
  ∃ (A : Option Addr) (q c : Nat) (ls : List M) (b : Bool), e = .returned (.tuple #[.slice A q c, .bool b]) ∧ q = ls.length ∧ OwM 31 w' w.heap.size (.slice A q c) ls ∧ q ≤ 7 ∧ Below w.heap.size w w'
theorem DrawSideZeros_any {A : Option Addr} {n c : Nat} {zs : List Int} (w : World) (hx : RdU w w.heap.size A zs) (hn : zs.length = n) (hb : n < 4611686018427387904) :
    Calls Tryz.prog 12 #[.slice A n c] w (RetDB w) := by
  have HF := Lib.hid (from_any (A := A) (n := n) (c := c) w hx hn hb)
  clear hx hn hb
  go_enter Tryz.func12, Tryz.ntmps12
  go_wp2_with fail
  refine HF.out.mono ?_
  rintro e w1 ⟨s, rfl, hs, hS1, hb1⟩
  have HS1 := Lib.hid hS1
  have Hb1 := Lib.hid hb1
  clear hS1 hb1 HF
  go_wp2_with fail
  refine (l02Draw_any w1 HS1.out).mono ?_
  rintro e w2 ⟨v, ms, rfl, ho, hp, hS2, hg2⟩
  obtain ⟨A5, c5, rfl, _⟩ := ho.form
  have h1 := HS1.out.lt
  have h2 := Hb1.out.size
  have Hb2 := Lib.hid (Hb1.out.trans ((bel_s hg2 (Nat.le_of_lt h1)).mono hs))
  have Ho := Lib.hid (ho.mono h2)
  have hne := Lib.hid (show (Value.slice A5 ms.length c5).ownBlock ≠ some s from fun e => by have := (ho.lt _ e).1; omega)
  have HS2 := Lib.hid hS2
  have Hp := Lib.hid hp
  clear ho hp hS2 hg2 HS1 Hb1
  go_wp2_with fail
  refine (next_any 2 w2 HS2.out).mono ?_
  rintro e w3 ⟨r, rfl, _, _, hS3, hg3⟩
  have HR : Hid (RetDB w (.returned (.tuple #[.slice A5 ms.length c5, .bool (r == 0)])) w3) :=
    ⟨A5, ms.length, c5, ms, _, rfl, rfl, Ho.out.keep (fun q hq => hg3.block q (Ho.out.lt q hq).2 (fun e => hne.out (by rw [hq]; exact e))), Hp.out, Hb2.out.trans ((bel_s hg3 (Nat.le_of_lt HS2.out.lt)).mono hs)⟩
  clear hS3 hg3 HS2 Ho Hb2
  obtain ⟨b, hb0⟩ : ∃ b, (r == 0) = b := ⟨_, rfl⟩
  rw [hb0] at HR
  go_wp2_with fail
  refine bodyPost_ret (v := .tuple #[.slice A5 ms.length c5, .bool b]) ?_ rfl HR.out
  simp [results, Tryz.results12, go_sem, *]
theorem DrawIsCommutative_any {A : Option Addr} {n c : Nat} {zs : List Int} (w : World) (hx : RdU w w.heap.size A zs) (hn : zs.length = n) (hb : n < 4611686018427387904) :
    Calls Tryz.prog 19 #[.slice A n c] w (RetGD w) := by
  have HF := Lib.hid (from_any (A := A) (n := n) (c := c) w hx hn hb)
  clear hx hn hb
  go_enter Tryz.func19, Tryz.ntmps19
  go_wp2_with fail
  refine HF.out.mono ?_
  rintro e w1 ⟨s, rfl, hs, hS1, hb1⟩
  have HS1 := Lib.hid hS1
  have Hb1 := Lib.hid hb1
  clear hS1 hb1 HF
  go_wp2_with fail
  refine (next_any 3 w1 HS1.out).mono ?_
  rintro e w2 ⟨r, rfl, _, _, hS2, hg2⟩
  have Hb2 := Lib.hid (Hb1.out.trans ((bel_s hg2 (Nat.le_of_lt HS1.out.lt)).mono hs))
  have HS2 := Lib.hid hS2
  clear hS2 hg2 HS1 Hb1
  by_cases r0 : r = 0
  · subst r0
    go_wp2_with fail
    refine (draw_any w2 HS2.out).mono ?_
    rintro e w3 ⟨m, rfl, _, hS3, hg3⟩
    have Hb3 := Hb2.out.trans ((bel_s hg3 (Nat.le_of_lt HS2.out.lt)).mono hs)
    have hz := Hb3.size
    have HR : Hid (RetGD w (.returned (.slice (some ⟨w3.heap.size, 0, none⟩) 1 1)) (w3.alloc (.cells (mc m) 31))) :=
      ⟨_, 1, 1, [m], rfl, rfl, OwM.one hz, by omega, Hb3.alloc hz _⟩
    clear hS3 hg3 HS2 Hb2 Hb3
    go_wp2_with fail
    go_ret
    exact HR.out
  · have r0f : (r == 0) = false := by simpa using r0
    clear r0
    go_wp2_with fail
    refine (l02Draw_any w2 HS2.out).mono ?_
    intro e w3 h3
    obtain ⟨A3, n3, c3, ms3, rfl, h1, h2, h3, h4⟩ := RetL.d h3 Hb2.out.size HS2.out.lt hs Hb2.out
    have H : Hid (RetGD w (.returned (.slice A3 n3 c3)) w3) := ⟨A3, n3, c3, ms3, rfl, h1, h2, h3, h4⟩
    clear h1 h2 h3 h4
    go_wp2_with fail
    go_ret
    exact H.out
structure JG where
  j : Nat
structure SW5 (w0 : World) (s : Nat) (A : Option Addr) (n c : Nat) (zs : List Int) (v5 : Value) (ms : List M) (L8 : List M) (A8 : Option Addr) (b5 b9 : Bool) (o : JG) (w : World) : Prop where
  src : b5 = false → Src w s A n c zs
  bel : Below w0.heap.size w0 w
  hs : w0.heap.size + 1 ≤ s
  res : Blk w w0.heap.size 31 (mc (if b9 then gm L8 o.j else M0))
  lst : OwM 31 w (w0.heap.size + 1) v5 ms
  nb : v5.ownBlock ≠ some s
  rd : b9 = false → RdM w w.heap.size A8 L8
  hj : b5 = true → o.j < L8.length
section
variable {w0 w w' : World} {s : Nat} {A : Option Addr} {n c : Nat} {zs : List Int} {v5 : Value} {ms L8 : List M} {A8 : Option Addr} {b5 b9 : Bool} {o : JG}
theorem SW5.do5 (h : SW5 w0 s A n c zs v5 ms L8 A8 false false o w) (hS : Src w' s A n c zs) (hg : w.grownBy w' (some s)) {j : Nat} (hj : j < L8.length) : SW5 w0 s A n c zs v5 ms L8 A8 true false { o with j := j } w' :=
  have h1 := h.hs
  ⟨by simp, h.bel.trans ((bel_s hg (Nat.le_of_lt (h.src rfl).lt)).mono (by omega)), h.hs, h.res.grown hg (fun e => by injection e with e; omega),
    h.lst.keep (fun q hq => hg.block q (h.lst.lt q hq).2 (fun e => h.nb (by rw [hq]; exact e))), h.nb, fun _ => (h.rd rfl).by_s (h.src rfl) hg, fun _ => hj⟩
theorem SW5.do9 (h : SW5 w0 s A n c zs v5 ms L8 A8 true false o w) : SW5 w0 s A n c zs v5 ms L8 A8 true true o (st6 w w0.heap.size (gm L8 o.j)) :=
  ⟨by simp, below_st6 h.bel (Nat.le_refl _) _, h.hs, h.res.st6 _, h.lst.st6f (h.lst.no (by omega)) _, h.nb, by simp, h.hj⟩
end
set_option maxHeartbeats 2000000 in
theorem l02With_any {A : Option Addr} {n c : Nat} {zs : List Int} (w : World) (hx : RdU w w.heap.size A zs) (hn : zs.length = n) (hb : n < 4611686018427387904) :
    Calls Tryz.prog 75 #[.slice A n c] w (RetD1 w) := by
  have hb0 : Below w.heap.size w (w.alloc (.cells (mc M0) 31)) := (Below.refl _ _).alloc (Nat.le_refl _) _
  have HF := Lib.hid (from_any (A := A) (n := n) (c := c) (w.alloc (.cells (mc M0) 31)) ⟨Rd.more (hx.below hb0).1 (by simp), hx.2⟩ hn hb)
  have H3 := Lib.hid (Blk.new w 31 (mc M0))
  have Hb0 := Lib.hid hb0
  have hz0 : (w.alloc (.cells (mc M0) 31)).heap.size = w.heap.size + 1 := by simp
  have Hz0 := Lib.hid hz0
  clear hx hn hb hb0 hz0
  go_enter Tryz.func75, Tryz.ntmps75
  go_wp2_with fail
  refine HF.out.mono ?_
  rintro e w1 ⟨s, rfl, hs, hS1, hb1⟩
  rw [Hz0.out] at hs hb1
  have HS1 := Lib.hid hS1
  have Hb1 := Lib.hid (Hb0.out.trans (hb1.mono (Nat.le_succ _)))
  have H31 := Lib.hid (H3.out.below hb1 (Nat.lt_succ_self _))
  have Hs := Lib.hid hs
  clear hS1 hb1 HF H3 Hb0
  go_wp2_with fail
  refine (l02Draw_any w1 HS1.out).mono ?_
  rintro e w2 ⟨v, ms, rfl, ho, hp, hS2, hg2⟩
  obtain ⟨A5, c5, rfl, _⟩ := ho.form
  obtain ⟨q5, hq5⟩ : ∃ q5, q5 = ms.length := ⟨_, rfl⟩
  rw [← hq5] at ho ⊢
  have h1 := HS1.out.lt
  have h2 := Hb1.out.size
  have hz1 : w.heap.size + 1 ≤ w1.heap.size := by omega
  have Hb2 := Lib.hid (Hb1.out.trans ((bel_s hg2 (Nat.le_of_lt h1)).mono (by omega)))
  have Ho := Lib.hid (ho.mono hz1)
  have Hne := Lib.hid (show (Value.slice A5 q5 c5).ownBlock ≠ some s from fun e => by have := (ho.lt _ e).1; omega)
  have H32 := Lib.hid (H31.out.grown hg2 (fun e => by injection e with e; omega))
  have HS2 := Lib.hid hS2
  have Hp : Hid (q5 ≤ 7) := by show q5 ≤ 7; rw [hq5]; exact hp
  have Hq5 := Lib.hid hq5
  have hq7 : q5 < 1073741824 := by have := Hp.out; omega
  clear ho hp hS2 hg2 HS1 Hb1 H31 hq5 h1 h2 hz1
  go_wp2_with fail
  refine (SpecElementsOf_any A5 q5 c5 ms w2 Ho.out.rdM Hq5.out.symm hq7).mono ?_
  rintro e w3 ⟨A8, c8, rfl, hr8, hb3⟩
  obtain ⟨L8, hL8⟩ : ∃ L8, L8 = elR ms [] := ⟨_, rfl⟩
  obtain ⟨C, hC⟩ : ∃ C, C = elC ms [] := ⟨_, rfl⟩
  have Hpos : Hid (C = 0 → 0 < L8.length) := fun h => by rw [hL8]; exact elR_pos (by rw [← hC]; exact h)
  rw [← hL8] at hr8 ⊢
  rw [← hC]
  obtain ⟨E, hE⟩ : ∃ E, E = L8.length := ⟨_, rfl⟩
  rw [← hE] at Hpos ⊢
  have HE := Lib.hid hE
  have Hr8 := Lib.hid hr8
  have Hb3 := Lib.hid (Hb2.out.trans (hb3.mono Hb2.out.size))
  have Ho3 := Lib.hid (Ho.out.below hb3 (Nat.le_refl _))
  have H33 := Lib.hid (H32.out.below hb3 H32.out.lt)
  have HS3 := Lib.hid (HS2.out.below hb3)
  clear hL8 hC hr8 hb3 hE Hb2 Ho H32 HS2
  by_cases hC0 : C = 0
  · subst hC0
    have hEp : 0 < E := Hpos.out rfl
    go_wp2_with fail
    refine (next_any 5 w3 HS3.out).mono ?_
    rintro e w4 ⟨r, rfl, _, _, hS4, hg4⟩
    have Hb4 := Lib.hid (Hb3.out.trans ((bel_s hg4 (Nat.le_of_lt HS3.out.lt)).mono (by omega)))
    have Ho4 := Lib.hid (Ho3.out.keep (fun q hq => hg4.block q (Ho3.out.lt q hq).2 (fun e => Hne.out (by rw [hq]; exact e))))
    have H34 := Lib.hid (H33.out.grown hg4 (fun e => by injection e with e; omega))
    have Hr4 := Lib.hid (Hr8.out.by_s HS3.out hg4)
    have HS4 := Lib.hid hS4
    clear hS4 hg4 Hb3 Ho3 H33 HS3 Hr8
    by_cases hr0 : 0 < r
    · obtain ⟨b8, off8, rfl, hb8, _⟩ := RdM.at_ Hr4.out (k := 0) (by rw [← HE.out]; exact hEp)
      go_wp2_with fail
      have HW0 : SW5 w s A n c zs (.slice A5 q5 c5) ms L8 (some ⟨b8, off8, none⟩) false false ⟨0⟩ w4.drew := by
        have hbd : Below w4.heap.size w4 w4.drew := (Below.refl _ _).drew
        exact ⟨fun _ => HS4.out.below hbd, Hb4.out.trans (hbd.mono Hb4.out.size), hs, H34.out.below hbd H34.out.lt, Ho4.out.below hbd (Nat.le_refl _), Hne.out, fun _ => Rd.more (Rd.below Hr4.out hbd) hbd.size, by simp⟩
      clear Hb4 H34 Hr4 HS4
      refine wp_region_flags [] rfl (by kernel_rfl) (by kernel_rfl) [] (by kernel_rfl) _
        (fun o : JG => [.slice A5 q5 c5, .slice (some ⟨b8, off8, none⟩) E c8, .pointer (some ⟨s, 0, none⟩), .slice (some ⟨b8, off8, none⟩) E c8, I E, I o.j, .pointer (some ⟨b8, off8 + o.j * 6, none⟩), .agg (mc (gm L8 o.j)), .slice A5 q5 c5, undef])
        (by intro o; simp only [putAll, List.setIfInBounds_toArray, List.set_cons_succ, List.set_cons_zero]; rfl)
        [] rfl _
        (by intro o; simp only [setAll, List.setIfInBounds_toArray, List.set_cons_succ, List.set_cons_zero]; rfl) (by kernel_rfl)
        (fun d o w' => SW5 w s A n c zs (.slice A5 q5 c5) ms L8 (some ⟨b8, off8, none⟩) (d 5) (d 9) o w')
        ⟨0⟩ HW0 ?hop ?hQ
      case hop =>
        refine ⟨?_, ?_, ?_, ?_, ?_, ?_, ?_, ?_, ?_, ?_, trivial⟩
        · refine ⟨rfl, Flag.pure (fun _ _ _ h => h) fun d c w' hd hdeps hcl hS => ?_⟩
          skip
          clear hS hdeps hcl hd
          unfold Oper.wp
          go_simp
          exact ⟨rfl, fun t ht => by injection ht with ht; subst ht; rfl, rfl⟩
        · refine ⟨rfl, Flag.pure (fun _ _ _ h => h) fun d c w' hd hdeps hcl hS => ?_⟩
          skip
          clear hS hdeps hcl hd
          unfold Oper.wp
          go_simp
          exact ⟨rfl, fun t ht => by injection ht with ht; subst ht; rfl, rfl⟩
        · refine ⟨rfl, Flag.pure (fun _ _ _ h => h) fun d c w' hd hdeps hcl hS => ?_⟩
          skip
          clear hS hdeps hcl hd
          unfold Oper.wp
          go_simp
          exact ⟨rfl, fun t ht => by injection ht with ht; subst ht; rfl, rfl⟩
        · refine ⟨rfl, Flag.pure (fun _ _ _ h => h) fun d c w' hd hdeps hcl hS => ?_⟩
          skip
          clear hS hdeps hcl hd
          unfold Oper.wp
          go_simp
          exact ⟨rfl, fun t ht => by injection ht with ht; subst ht; rfl, rfl⟩
        · refine ⟨rfl, Flag.pure (fun _ _ _ h => h) fun d c w' hd hdeps hcl hS => ?_⟩
          skip
          clear hS hdeps hcl hd
          unfold Oper.wp
          go_simp
          exact ⟨rfl, fun t ht => by injection ht with ht; subst ht; rfl, rfl⟩
        · refine ⟨rfl, fun d o w' hd hdeps hcl hS => ?_⟩
          have hS : SW5 w s A n c zs (.slice A5 q5 c5) ms L8 (some ⟨b8, off8, none⟩) (d 5) (d 9) o w' := hS
          have d6 := hcl.down (k := 6) (j := 5) rfl (by kernel_rfl) hd
          have d7 := hcl.down (k := 7) (j := 6) rfl (by kernel_rfl) d6
          have d9 := hcl.down (k := 9) (j := 7) rfl (by kernel_rfl) d7
          rw [hd, d9] at hS
          have H := Lib.hid hS
          clear hS hdeps hcl
          unfold Oper.wp
          go_simp
          refine (next_any E w' (H.out.src rfl)).mono ?_
          rintro e w6 ⟨r, rfl, hr, _, hS6, hg6⟩
          obtain ⟨hr1, hr2⟩ := hr (by omega)
          obtain ⟨j, hj⟩ : ∃ j : Nat, (j : Int) = r := ⟨r.toNat, by omega⟩
          subst hj
          refine ⟨({ o with j := j } : JG), [(29, I j), (30, .pointer (some ⟨b8, off8 + j * 6, none⟩)), (31, .agg (mc (gm L8 j)))], ⟨rfl, fun t ht => by injection ht with ht; subst ht; rfl⟩, ?_, rfl, ?_⟩
          · show SW5 _ _ _ _ _ _ _ _ _ _ true (d 9) _ _
            rw [d9]
            exact H.out.do5 hS6 hg6 (by have := HE.out; omega)
          · intro p hp
            simp at hp
            rcases hp with rfl | rfl | rfl
            · exact .inl rfl
            · exact .inr ⟨6, _, rfl, rfl, by decide, d6⟩
            · exact .inr ⟨7, _, rfl, rfl, by decide, d7⟩
        · refine ⟨rfl, fun d o w' hd hdeps hcl hS => ?_⟩
          have hS : SW5 w s A n c zs (.slice A5 q5 c5) ms L8 (some ⟨b8, off8, none⟩) (d 5) (d 9) o w' := hS
          have d5 := hdeps 5 (by kernel_rfl)
          have hj := hS.hj d5
          have hjE : (o.j : Int) < (E : Int) := by have := HE.out; omega
          have hj0 : (0 : Int) ≤ (o.j : Int) := by omega
          have H := Lib.hid hS
          clear hS hdeps hcl hd
          unfold Oper.wp
          go_simp
          exact ⟨o, [], ⟨rfl, fun t ht => by injection ht with ht; subst ht; rfl⟩, H.out, rfl, by simp⟩
        · refine ⟨rfl, fun d o w' hd hdeps hcl hS => ?_⟩
          have hS : SW5 w s A n c zs (.slice A5 q5 c5) ms L8 (some ⟨b8, off8, none⟩) (d 5) (d 9) o w' := hS
          have d6 := hdeps 6 (by kernel_rfl)
          have d5 := hcl.up (k := 6) (j := 5) rfl (by kernel_rfl) d6
          have d9 := hcl.down (k := 9) (j := 7) rfl (by kernel_rfl) hd
          obtain ⟨_, _, e, _, c0, c1, c2, c3, c4, c5'⟩ := RdM.at_ (hS.rd d9) (k := o.j) (hS.hj d5)
          injection e with e
          injection e with e3 e4 _
          subst e3 e4
          have H := Lib.hid hS
          obtain ⟨z, hz⟩ : ∃ z, z = gm L8 o.j := ⟨_, rfl⟩
          rw [← hz] at c0 c1 c2 c3 c4 c5'
          have HZ := Lib.hid hz
          clear hS hdeps hcl hd hz
          unfold Oper.wp
          go_simp
          have hz := HZ.out
          subst hz
          exact ⟨o, [], ⟨rfl, fun t ht => by injection ht with ht; subst ht; rfl⟩, H.out, rfl, by simp⟩
        · refine ⟨rfl, Flag.pure (fun _ _ _ h => h) fun d c w' hd hdeps hcl hS => ?_⟩
          skip
          clear hS hdeps hcl hd
          unfold Oper.wp
          go_simp
          exact ⟨rfl, fun t ht => by injection ht with ht; subst ht; rfl, rfl⟩
        · refine ⟨rfl, fun d o w' hd hdeps hcl hS => ?_⟩
          have hS : SW5 w s A n c zs (.slice A5 q5 c5) ms L8 (some ⟨b8, off8, none⟩) (d 5) (d 9) o w' := hS
          have d7 := hdeps 7 (by kernel_rfl)
          have d6 := hcl.up (k := 7) (j := 6) rfl (by kernel_rfl) d7
          have d5 := hcl.up (k := 6) (j := 5) rfl (by kernel_rfl) d6
          rw [hd, d5] at hS
          obtain ⟨x0, x1, x2, x3, x4, x5⟩ := hS.res.six
          obtain ⟨z0, z1, z2, z3, z4, z5⟩ := hS.res.fr6
          have H := Lib.hid hS.do9
          clear hS hdeps hcl
          unfold Oper.wp
          go_simp
          refine ⟨o, [], ⟨rfl, fun t ht => by cases ht⟩, ?_, rfl, by simp⟩
          show SW5 _ _ _ _ _ _ _ _ _ _ (d 5) true _ _
          rw [d5]
          exact H.out
      case hQ =>
      intro fl o we hall hS
      have hS : SW5 w s A n c zs (.slice A5 q5 c5) ms L8 (some ⟨b8, off8, none⟩) (fl 5) (fl 9) o we := hS
      rw [hall 9 (by decide)] at hS
      have k3 := hS.res
      rw [if_pos rfl] at k3
      generalize gm L8 o.j = f at *
      obtain ⟨x0, x1, x2, x3, x4, x5⟩ := k3.six
      have HR : Hid (RetD1 w (.returned (.tuple #[.slice A5 q5 c5, .agg (mc f)])) we) := ⟨A5, q5, c5, ms, f, rfl, Hq5.out, hS.lst.mono (Nat.le_succ _), Hp.out, hS.bel⟩
      clear hS hall k3 HW0
      go_wp2_with fail
      refine bodyPost_ret (v := .tuple #[.slice A5 q5 c5, .agg (mc f)]) ?_ rfl HR.out
      simp [results, Tryz.results75, go_sem, *]
    · clear Hr4
      go_wp2_with fail
      refine (spoil_any w4 HS4.out).mono ?_
      rintro e w9 ⟨f, rfl, _, hS9, hg9⟩
      have hb9 := Hb4.out.trans ((bel_s hg9 (Nat.le_of_lt HS4.out.lt)).mono (by omega))
      have ho9 := Ho4.out.keep (fun q hq => hg9.block q (Ho4.out.lt q hq).2 (fun e => Hne.out (by rw [hq]; exact e)))
      have h39 := H34.out.grown hg9 (fun e => by injection e with e; omega)
      obtain ⟨x0, x1, x2, x3, x4, x5⟩ := h39.six
      obtain ⟨z0, z1, z2, z3, z4, z5⟩ := h39.fr6
      have HR : Hid (RetD1 w (.returned (.tuple #[.slice A5 q5 c5, .agg (mc f)])) (st6 w9 w.heap.size f)) := ⟨A5, q5, c5, ms, f, rfl, Hq5.out, (ho9.st6f (ho9.no (by omega)) f).mono (Nat.le_succ _), Hp.out, below_st6 hb9 (Nat.le_refl _) f⟩
      clear hb9 ho9 h39 hS9 hg9 Hb4 Ho4 H34 HS4
      go_wp2_with fail
      refine bodyPost_ret (v := .tuple #[.slice A5 q5 c5, .agg (mc f)]) ?_ rfl HR.out
      simp [results, Tryz.results75, go_sem, *]
  · have hCf : (C == 0) = false := by simpa using hC0
    clear hC0 Hpos Hr8
    go_wp2_with fail
    refine (spoil_any w3 HS3.out).mono ?_
    rintro e w9 ⟨f, rfl, _, hS9, hg9⟩
    have hb9 := Hb3.out.trans ((bel_s hg9 (Nat.le_of_lt HS3.out.lt)).mono (by omega))
    have ho9 := Ho3.out.keep (fun q hq => hg9.block q (Ho3.out.lt q hq).2 (fun e => Hne.out (by rw [hq]; exact e)))
    have h39 := H33.out.grown hg9 (fun e => by injection e with e; omega)
    obtain ⟨x0, x1, x2, x3, x4, x5⟩ := h39.six
    obtain ⟨z0, z1, z2, z3, z4, z5⟩ := h39.fr6
    have HR : Hid (RetD1 w (.returned (.tuple #[.slice A5 q5 c5, .agg (mc f)])) (st6 w9 w.heap.size f)) := ⟨A5, q5, c5, ms, f, rfl, Hq5.out, (ho9.st6f (ho9.no (by omega)) f).mono (Nat.le_succ _), Hp.out, below_st6 hb9 (Nat.le_refl _) f⟩
    clear hb9 ho9 h39 hS9 hg9 Hb3 Ho3 H33 HS3
    go_wp2_with fail
    refine bodyPost_ret (v := .tuple #[.slice A5 q5 c5, .agg (mc f)]) ?_ rfl HR.out
    simp [results, Tryz.results75, go_sem, *]
theorem SD1.next {w0 w w' : World} {v : Value} {ms : List M} {q5 s : Nat} {f : M} {b3 : Bool} (h : SD1 w0 v ms q5 f b3 w) (hg : w.grownBy w' (some s)) (hs : s < w.heap.size) (h0 : w0.heap.size + 1 ≤ s) (hv : v.ownBlock ≠ some s) (h5 : q5 ≠ s) : SD1 w0 v ms q5 f b3 w' :=
  ⟨h.bel.trans ((bel_s hg (Nat.le_of_lt hs)).mono (by omega)), h.lst.keep (fun q hq => hg.block q (h.lst.lt q hq).2 (fun e => hv (by rw [hq]; exact e))), h.c3.grown hg (fun e => by injection e with e; omega), h.c5.grown hg (fun e => by injection e with e; exact h5 e), h.h5⟩
set_option maxHeartbeats 2000000 in
theorem DrawIsElement_any {A : Option Addr} {n c : Nat} {zs : List Int} (w : World) (hx : RdU w w.heap.size A zs) (hn : zs.length = n) (hb : n < 4611686018427387904) :
    Calls Tryz.prog 26 #[.slice A n c] w (RetD1 w) := by
  have Hcode := Lib.hid hx
  have Hn := Lib.hid hn
  have hbb := hb
  have hb0 : Below w.heap.size w (w.alloc (.cells (mc M0) 31)) := (Below.refl _ _).alloc (Nat.le_refl _) _
  have HF := Lib.hid (from_any (A := A) (n := n) (c := c) (w.alloc (.cells (mc M0) 31)) ⟨Rd.more (hx.below hb0).1 (by simp), hx.2⟩ hn hb)
  have H3 := Lib.hid (Blk.new w 31 (mc M0))
  have Hb0 := Lib.hid hb0
  have hz0 : (w.alloc (.cells (mc M0) 31)).heap.size = w.heap.size + 1 := by simp
  have Hz0 := Lib.hid hz0
  clear hx hn hb hb0 hz0
  go_enter Tryz.func26, Tryz.ntmps26
  go_wp2_with fail
  refine HF.out.mono ?_
  rintro e w1 ⟨s, rfl, hs, hS1, hb1⟩
  rw [Hz0.out] at hs hb1
  have HS1 := Lib.hid hS1
  have Hb1 := Lib.hid (Hb0.out.trans (hb1.mono (Nat.le_succ _)))
  have H31 := Lib.hid (H3.out.below hb1 (Nat.lt_succ_self _))
  have Hs := Lib.hid hs
  clear hS1 hb1 HF H3 Hb0
  have hx1 : RdU w1 w1.heap.size A zs := RdU.on Hcode.out Hb1.out Hb1.out.size
  go_wp2_with fail
  refine (l02With_any (A := A) (n := n) (c := c) w1 hx1 Hn.out hbb).mono ?_
  rintro e w2 ⟨A5, q5, c5, ls, f, rfl, hq, ho, hq7, hb2⟩
  have h1 := Hb1.out.size
  have h3 := HS1.out.lt
  have hs2 : s < w2.heap.size := Nat.lt_of_lt_of_le h3 hb2.size
  have hz1 : w.heap.size + 1 ≤ w1.heap.size := by omega
  have S0 : Hid (SD1 w (.slice A5 q5 c5) ls w2.heap.size f false (w2.alloc (.cells (mc f) 31))) :=
    ⟨(Hb1.out.trans (hb2.mono h1)).alloc (by have := hb2.size; omega) _, (OwM.mono (OwM.alloc ho _) hz1), (H31.out.below hb2 H31.out.lt).alloc _, Blk.new w2 _ _, by have := hb2.size; omega⟩
  have HS2 : Hid (Src (w2.alloc (.cells (mc f) 31)) s A n c zs) := (HS1.out.below hb2).alloc _
  have Hne := Lib.hid (show (Value.slice A5 q5 c5).ownBlock ≠ some s from fun e => by have := (ho.lt _ e).1; omega)
  have Hq := Lib.hid hq
  have Hq7 := Lib.hid hq7
  have hqs : w2.heap.size ≠ s := by omega
  clear hx1 ho hb2 Hb1 H31 HS1 h1 h3 hq hz1 Hcode
  go_upto_region 3 with fail
  go_cut [28] from 38 (fun b wx => ∃ bb, b = .bool bb ∧ (bb = true → 0 < q5 ∧ ∃ k : Nat, 1 ≤ k ∧ k ≤ 5 ∧ (gm ls 0).p = k) ∧ SD1 w (.slice A5 q5 c5) ls w2.heap.size f false wx ∧ Src wx s A n c zs)
  case first =>
    by_cases hq0 : 0 < q5
    · have hqz : (0 : Int) < (q5 : Int) := by omega
      obtain ⟨b0, o0, rfl, hb0, x0, _⟩ := RdM.at_ S0.out.lst.rdM (k := 0) (by rw [← Hq.out]; exact hq0)
      simp only [Nat.zero_mul, Nat.add_zero] at x0
      obtain ⟨p0, hp0⟩ : ∃ p0, (gm ls 0).p = p0 := ⟨_, rfl⟩
      rw [hp0] at x0
      have Hp0 := Lib.hid hp0
      clear hp0
      go_wp2_with fail
      refine (l01In_any p0 1 5 _).mono ?_
      rintro e w' ⟨rfl, rfl⟩
      cases hin : inR p0 1 5
      · have Hin := Lib.hid hin
        clear hin
        go_wp2_with fail
        go_meet
        exact ⟨false, rfl, by simp, S0.out, HS2.out⟩
      · have hin2 := inR_true.1 hin
        clear hin
        go_wp2_with fail
        refine (next_any 3 _ HS2.out).mono ?_
        rintro e w3 ⟨r, rfl, _, _, hS3, hg3⟩
        have S3 := Lib.hid (S0.out.next hg3 HS2.out.lt (by omega) Hne.out hqs)
        have HS3 := Lib.hid hS3
        clear hS3 hg3
        by_cases hr : r = 0
        · subst hr
          go_wp2_with fail
          go_meet
          exact ⟨true, rfl, fun _ => ⟨hq0, p0.toNat, by omega, by omega, by rw [Hp0.out]; omega⟩, S3.out, HS3.out⟩
        · have hrf : (r == 0) = false := by simpa using hr
          clear hr
          go_wp2_with fail
          go_meet
          exact ⟨false, rfl, by simp, S3.out, HS3.out⟩
    · obtain rfl : q5 = 0 := by omega
      go_wp2_with fail
      go_meet
      exact ⟨false, rfl, by simp, S0.out, HS2.out⟩
  case rest =>
    clear S0 HS2
    obtain ⟨bb, rfl, hbb2, hS, hSr⟩ := hcut
    have S4 := Lib.hid hS
    have HS4 := Lib.hid hSr
    clear hS hSr
    cases bb
    · clear hbb2
      go_wp2_with fail
      refine wp_region_flags [] rfl (by kernel_rfl) (by kernel_rfl) [] (by kernel_rfl) _
        (fun o : Unit => [.slice A5 q5 c5, .agg (mc f), .slice A5 q5 c5, undef])
        (by intro o; simp only [putAll, List.setIfInBounds_toArray, List.set_cons_succ, List.set_cons_zero]; rfl)
        [] rfl _
        (by intro o; simp only [setAll, List.setIfInBounds_toArray, List.set_cons_succ, List.set_cons_zero]; rfl) (by kernel_rfl)
        (fun d o w' => SD1 w (.slice A5 q5 c5) ls w2.heap.size f (d 3) w')
        () ⟨S4.out.bel.drew, S4.out.lst, S4.out.c3, S4.out.c5, S4.out.h5⟩ ?hop ?hQ
      case hop =>
        refine ⟨?_, ?_, ?_, ?_, trivial⟩
        · refine ⟨rfl, Flag.pure (fun _ _ _ h => h) fun d c w' hd hdeps hcl hS => ?_⟩
          skip
          clear hS hdeps hcl hd
          unfold Oper.wp
          go_simp
          exact ⟨rfl, fun t ht => by injection ht with ht; subst ht; rfl, rfl⟩
        · refine ⟨rfl, Flag.pure (fun _ _ _ h => h) fun d c w' hd hdeps hcl hS => ?_⟩
          obtain ⟨x0, x1, x2, x3, x4, x5⟩ := hS.c5.six
          clear hS hdeps hcl hd
          unfold Oper.wp
          go_simp
          exact ⟨rfl, fun t ht => by injection ht with ht; subst ht; rfl, rfl⟩
        · refine ⟨rfl, Flag.pure (fun _ _ _ h => h) fun d c w' hd hdeps hcl hS => ?_⟩
          skip
          clear hS hdeps hcl hd
          unfold Oper.wp
          go_simp
          exact ⟨rfl, fun t ht => by injection ht with ht; subst ht; rfl, rfl⟩
        · refine ⟨rfl, fun d o w' hd hdeps hcl hS => ?_⟩
          have hS : SD1 w (.slice A5 q5 c5) ls w2.heap.size f (d 3) w' := hS
          rw [hd] at hS
          obtain ⟨x0, x1, x2, x3, x4, x5⟩ := hS.c3.six
          obtain ⟨z0, z1, z2, z3, z4, z5⟩ := hS.c3.fr6
          have H := Lib.hid hS.do3
          clear hS hdeps hcl
          unfold Oper.wp
          go_simp
          refine ⟨o, [], ⟨rfl, fun t ht => by cases ht⟩, ?_, rfl, by simp⟩
          exact H.out
      case hQ =>
      intro fl o we hall hS
      have hS : SD1 w (.slice A5 q5 c5) ls w2.heap.size f (fl 3) we := hS
      rw [hall 3 (by decide)] at hS
      have k3 := hS.c3
      rw [if_pos rfl] at k3
      obtain ⟨x0, x1, x2, x3, x4, x5⟩ := k3.six
      have HR : Hid (RetD1 w (.returned (.tuple #[.slice A5 q5 c5, .agg (mc f)])) we) := ⟨A5, q5, c5, ls, f, rfl, Hq.out, hS.lst.mono (Nat.le_succ _), Hq7.out, hS.bel⟩
      clear hS hall k3 S4
      go_wp2_with fail
      refine bodyPost_ret (v := .tuple #[.slice A5 q5 c5, .agg (mc f)]) ?_ rfl HR.out
      simp [results, Tryz.results26, go_sem, *]
    · obtain ⟨hq0, k, hk1, hk5, hp⟩ := hbb2 rfl
      have hqz : (0 : Int) < (q5 : Int) := by omega
      obtain ⟨b0, o0, rfl, hb0, x0, _⟩ := RdM.at_ S4.out.lst.rdM (k := 0) (by rw [← Hq.out]; exact hq0)
      simp only [Nat.zero_mul, Nat.add_zero] at x0
      rw [hp] at x0
      clear hp hbb2
      go_wp2_with fail
      refine (drawOf_any k hk1 hk5 _ HS4.out).mono ?_
      rintro e w5 ⟨m, rfl, hm, hS5, hg5⟩
      clear hm
      have S5 := S4.out.next hg5 HS4.out.lt (by omega) Hne.out hqs
      obtain ⟨y0, y1, y2, y3, y4, y5⟩ := S5.c3.six
      obtain ⟨z0, z1, z2, z3, z4, z5⟩ := S5.c3.fr6
      have HR : Hid (RetD1 w (.returned (.tuple #[.slice (some ⟨b0, o0, none⟩) q5 c5, .agg (mc m)])) (st6 w5 w.heap.size m)) := ⟨_, q5, c5, ls, m, rfl, Hq.out, (OwM.st6f S5.lst (S5.lst.no (by omega)) m).mono (Nat.le_succ _), Hq7.out, below_st6 S5.bel (Nat.le_refl _) m⟩
      clear hS5 hg5 S5 S4 HS4 x0
      go_wp2_with fail
      refine bodyPost_ret (v := .tuple #[.slice (some ⟨b0, o0, none⟩) q5 c5, .agg (mc m)]) ?_ rfl HR.out
      simp [results, Tryz.results26, go_sem, *]
end Go.Proofs.YtchjegojcpbfpaaGreat
