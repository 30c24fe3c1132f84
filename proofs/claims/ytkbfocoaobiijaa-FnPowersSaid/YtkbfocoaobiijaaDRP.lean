/- Contracts of the draws of single maps, of a map and an exponent, and of two maps for renumbering; no conditions beyond those that the theorems state. -/
import Derived.Test.YtkbfocoaobiijaaDR5
import Derived.Deep.DeepCutAuto
namespace Go.Proofs.Ytkbfocoaobiijaa
open Go.RowKit
set_option maxRecDepth 100000
set_option linter.unusedSimpArgs false
set_option linter.unusedVariables false

/-- some map -/
def RetD0 (w : World) (e : Ending) (w' : World) : Prop := ∃ m : M, e = .returned (.agg (mc m)) ∧ Below w.heap.size w w'
/-- some map and some number -/
def RetDK (w : World) (e : Ending) (w' : World) : Prop := ∃ (m : M) (k : Int), e = .returned (.tuple #[.agg (mc m), I k]) ∧ Below w.heap.size w w'
/-- two maps -/
def RetD00 (w : World) (e : Ending) (w' : World) : Prop := ∃ f g : M, e = .returned (.tuple #[.agg (mc f), .agg (mc g)]) ∧ Below w.heap.size w w'
theorem Blk.stx {w : World} {b : Nat} {t : TypeId} {cs : Array Value} (h : Blk w b t cs) {q : Nat} (hq : b ≠ q) (m : M) : Blk (Go.Proofs.Ytkbfocoaobiijaa.st6 w q m) b t cs := by
  unfold Go.Proofs.Ytkbfocoaobiijaa.st6
  exact (((((h.far (by simpa using hq) _).far (by simpa using hq) _).far (by simpa using hq) _).far (by simpa using hq) _).far (by simpa using hq) _).far (by simpa using hq) _
/-- a drawn map's box beside the result's -/
structure SP (w0 : World) (s : Nat) (A : Option Addr) (n c : Nat) (zs : List Int) (q5 : Nat) (f : M) (w : World) : Prop where
  src : Src w s A n c zs
  bel : Below w0.heap.size w0 w
  hs : w0.heap.size + 1 ≤ s
  res : Blk w w0.heap.size 26 (mc M0)
  box : Blk w q5 26 (mc f)
  h5 : s < q5
section
variable {w0 w w' : World} {s : Nat} {A : Option Addr} {n c : Nat} {zs : List Int} {q5 : Nat} {f : M}
theorem SP.next (h : SP w0 s A n c zs q5 f w) (hS : Src w' s A n c zs) (hg : w.grownBy w' (some s)) : SP w0 s A n c zs q5 f w' :=
  have h1 := h.hs
  have h5 := h.h5
  ⟨hS, h.bel.trans ((bel_s hg (Nat.le_of_lt h.src.lt)).mono (by omega)), h.hs, h.res.grown hg (fun e => by injection e with e; omega), h.box.grown hg (fun e => by injection e with e; omega), h.h5⟩
theorem SP.below (h : SP w0 s A n c zs q5 f w) (hb : Below w.heap.size w w') : SP w0 s A n c zs q5 f w' := h.next (h.src.below hb) (grown_below hb _)
theorem SP.set (h : SP w0 s A n c zs q5 f w) (m : M) : SP w0 s A n c zs q5 m (st6 w q5 m) :=
  have h1 := h.hs
  have h5 := h.h5
  ⟨h.src.st6 h.h5 m, below_st6 h.bel (by omega) m, h.hs, h.res.stx (by omega) m, h.box.st6 m, h.h5⟩
theorem SP.fin (h : SP w0 s A n c zs q5 f w) (m : M) : Below w0.heap.size w0 (st6 w w0.heap.size m) := below_st6 h.bel (Nat.le_refl _) m
end

set_option maxHeartbeats 1000000 in
theorem DrawIdempotentPower_any {A : Option Addr} {n c : Nat} {zs : List Int} (w : World) (hx : RdU w w.heap.size A zs) (hn : zs.length = n) (hb : n < 4611686018427387904) :
    Calls Try.prog 10 #[.slice A n c] w (RetD0 w) := by
  have hb0 : Below w.heap.size w (w.alloc (.cells (mc M0) 26)) := (Below.refl _ _).alloc (Nat.le_refl _) _
  have HF := Lib.hid (from_any (A := A) (n := n) (c := c) (w.alloc (.cells (mc M0) 26)) ⟨Rd.more (hx.below hb0).1 (by simp), hx.2⟩ hn hb)
  have H3 := Lib.hid (Blk.new w 26 (mc M0))
  have Hb0 := Lib.hid hb0
  have hz0 : (w.alloc (.cells (mc M0) 26)).heap.size = w.heap.size + 1 := by simp
  have Hz0 := Lib.hid hz0
  clear hx hn hb hb0 hz0
  go_enter Try.func10, Try.ntmps10
  go_wp2_with fail
  refine HF.out.mono ?_
  rintro e w1 ⟨s, rfl, hs, hS1, hb1⟩
  rw [Hz0.out] at hs hb1
  have HS1 := Lib.hid hS1
  have Hb1 := Lib.hid (Hb0.out.trans (hb1.mono (Nat.le_succ _)))
  have H31 := Lib.hid (H3.out.below hb1 (Nat.lt_succ_self _))
  have Hs := Lib.hid hs
  clear hS1 hb1 HF H3 Hb0
  go_wp2_with fail
  refine (spoil_any w1 HS1.out).mono ?_
  rintro e w2 ⟨m, rfl, _, hS2, hg2⟩
  have hb2 := Hb1.out.trans ((bel_s hg2 (Nat.le_of_lt HS1.out.lt)).mono (by omega))
  have h32 := H31.out.grown hg2 (fun e => by injection e with e; omega)
  obtain ⟨e0, e1, e2, e3, e4, e5⟩ := h32.six
  obtain ⟨z0, z1, z2, z3, z4, z5⟩ := h32.fr6
  have HR := Lib.hid (below_st6 hb2 (Nat.le_refl _) m)
  clear hS2 hg2 HS1 Hb1 H31 hb2 h32
  go_wp2_with fail
  refine bodyPost_ret (v := .agg (mc m)) ?_ rfl ⟨m, rfl, HR.out⟩
  simp [results, Try.results10, go_sem, *]

set_option maxHeartbeats 1000000 in
theorem DrawKernelOf_any {A : Option Addr} {n c : Nat} {zs : List Int} (w : World) (hx : RdU w w.heap.size A zs) (hn : zs.length = n) (hb : n < 4611686018427387904) :
    Calls Try.prog 26 #[.slice A n c] w (RetD0 w) := by
  have hb0 : Below w.heap.size w (w.alloc (.cells (mc M0) 26)) := (Below.refl _ _).alloc (Nat.le_refl _) _
  have HF := Lib.hid (from_any (A := A) (n := n) (c := c) (w.alloc (.cells (mc M0) 26)) ⟨Rd.more (hx.below hb0).1 (by simp), hx.2⟩ hn hb)
  have H3 := Lib.hid (Blk.new w 26 (mc M0))
  have Hb0 := Lib.hid hb0
  have hz0 : (w.alloc (.cells (mc M0) 26)).heap.size = w.heap.size + 1 := by simp
  have Hz0 := Lib.hid hz0
  clear hx hn hb hb0 hz0
  go_enter Try.func26, Try.ntmps26
  go_wp2_with fail
  refine HF.out.mono ?_
  rintro e w1 ⟨s, rfl, hs, hS1, hb1⟩
  rw [Hz0.out] at hs hb1
  have HS1 := Lib.hid hS1
  have Hb1 := Lib.hid (Hb0.out.trans (hb1.mono (Nat.le_succ _)))
  have H31 := Lib.hid (H3.out.below hb1 (Nat.lt_succ_self _))
  have Hs := Lib.hid hs
  clear hS1 hb1 HF H3 Hb0
  go_wp2_with fail
  refine (spoil_any w1 HS1.out).mono ?_
  rintro e w2 ⟨m, rfl, _, hS2, hg2⟩
  have hb2 := Hb1.out.trans ((bel_s hg2 (Nat.le_of_lt HS1.out.lt)).mono (by omega))
  have h32 := H31.out.grown hg2 (fun e => by injection e with e; omega)
  obtain ⟨e0, e1, e2, e3, e4, e5⟩ := h32.six
  obtain ⟨z0, z1, z2, z3, z4, z5⟩ := h32.fr6
  have HR := Lib.hid (below_st6 hb2 (Nat.le_refl _) m)
  clear hS2 hg2 HS1 Hb1 H31 hb2 h32
  go_wp2_with fail
  refine bodyPost_ret (v := .agg (mc m)) ?_ rfl ⟨m, rfl, HR.out⟩
  simp [results, Try.results26, go_sem, *]

set_option maxHeartbeats 1000000 in
theorem DrawFixedPoints_any {A : Option Addr} {n c : Nat} {zs : List Int} (w : World) (hx : RdU w w.heap.size A zs) (hn : zs.length = n) (hb : n < 4611686018427387904) :
    Calls Try.prog 30 #[.slice A n c] w (RetD0 w) := by
  have hb0 : Below w.heap.size w (w.alloc (.cells (mc M0) 26)) := (Below.refl _ _).alloc (Nat.le_refl _) _
  have HF := Lib.hid (from_any (A := A) (n := n) (c := c) (w.alloc (.cells (mc M0) 26)) ⟨Rd.more (hx.below hb0).1 (by simp), hx.2⟩ hn hb)
  have H3 := Lib.hid (Blk.new w 26 (mc M0))
  have Hb0 := Lib.hid hb0
  have hz0 : (w.alloc (.cells (mc M0) 26)).heap.size = w.heap.size + 1 := by simp
  have Hz0 := Lib.hid hz0
  clear hx hn hb hb0 hz0
  go_enter Try.func30, Try.ntmps30
  go_wp2_with fail
  refine HF.out.mono ?_
  rintro e w1 ⟨s, rfl, hs, hS1, hb1⟩
  rw [Hz0.out] at hs hb1
  have HS1 := Lib.hid hS1
  have Hb1 := Lib.hid (Hb0.out.trans (hb1.mono (Nat.le_succ _)))
  have H31 := Lib.hid (H3.out.below hb1 (Nat.lt_succ_self _))
  have Hs := Lib.hid hs
  clear hS1 hb1 HF H3 Hb0
  go_wp2_with fail
  refine (spoil_any w1 HS1.out).mono ?_
  rintro e w2 ⟨m, rfl, _, hS2, hg2⟩
  have hb2 := Hb1.out.trans ((bel_s hg2 (Nat.le_of_lt HS1.out.lt)).mono (by omega))
  have h32 := H31.out.grown hg2 (fun e => by injection e with e; omega)
  obtain ⟨e0, e1, e2, e3, e4, e5⟩ := h32.six
  obtain ⟨z0, z1, z2, z3, z4, z5⟩ := h32.fr6
  have HR := Lib.hid (below_st6 hb2 (Nat.le_refl _) m)
  clear hS2 hg2 HS1 Hb1 H31 hb2 h32
  go_wp2_with fail
  refine bodyPost_ret (v := .agg (mc m)) ?_ rfl ⟨m, rfl, HR.out⟩
  simp [results, Try.results30, go_sem, *]

set_option maxHeartbeats 1000000 in
theorem DrawIsIdempotent_any {A : Option Addr} {n c : Nat} {zs : List Int} (w : World) (hx : RdU w w.heap.size A zs) (hn : zs.length = n) (hb : n < 4611686018427387904) :
    Calls Try.prog 32 #[.slice A n c] w (RetD0 w) := by
  have hb0 : Below w.heap.size w (w.alloc (.cells (mc M0) 26)) := (Below.refl _ _).alloc (Nat.le_refl _) _
  have HF := Lib.hid (from_any (A := A) (n := n) (c := c) (w.alloc (.cells (mc M0) 26)) ⟨Rd.more (hx.below hb0).1 (by simp), hx.2⟩ hn hb)
  have H3 := Lib.hid (Blk.new w 26 (mc M0))
  have Hb0 := Lib.hid hb0
  have hz0 : (w.alloc (.cells (mc M0) 26)).heap.size = w.heap.size + 1 := by simp
  have Hz0 := Lib.hid hz0
  clear hx hn hb hb0 hz0
  go_enter Try.func32, Try.ntmps32
  go_wp2_with fail
  refine HF.out.mono ?_
  rintro e w1 ⟨s, rfl, hs, hS1, hb1⟩
  rw [Hz0.out] at hs hb1
  have HS1 := Lib.hid hS1
  have Hb1 := Lib.hid (Hb0.out.trans (hb1.mono (Nat.le_succ _)))
  have H31 := Lib.hid (H3.out.below hb1 (Nat.lt_succ_self _))
  have Hs := Lib.hid hs
  clear hS1 hb1 HF H3 Hb0
  go_wp2_with fail
  refine (spoil_any w1 HS1.out).mono ?_
  rintro e w2 ⟨m, rfl, _, hS2, hg2⟩
  have hb2 := Hb1.out.trans ((bel_s hg2 (Nat.le_of_lt HS1.out.lt)).mono (by omega))
  have h32 := H31.out.grown hg2 (fun e => by injection e with e; omega)
  obtain ⟨e0, e1, e2, e3, e4, e5⟩ := h32.six
  obtain ⟨z0, z1, z2, z3, z4, z5⟩ := h32.fr6
  have HR := Lib.hid (below_st6 hb2 (Nat.le_refl _) m)
  clear hS2 hg2 HS1 Hb1 H31 hb2 h32
  go_wp2_with fail
  refine bodyPost_ret (v := .agg (mc m)) ?_ rfl ⟨m, rfl, HR.out⟩
  simp [results, Try.results32, go_sem, *]

set_option maxHeartbeats 1000000 in
theorem DrawInverseOf_any {A : Option Addr} {n c : Nat} {zs : List Int} (w : World) (hx : RdU w w.heap.size A zs) (hn : zs.length = n) (hb : n < 4611686018427387904) :
    Calls Try.prog 19 #[.slice A n c] w (RetD0 w) := by
  have hb0 : Below w.heap.size w (w.alloc (.cells (mc M0) 26)) := (Below.refl _ _).alloc (Nat.le_refl _) _
  have HF := Lib.hid (from_any (A := A) (n := n) (c := c) (w.alloc (.cells (mc M0) 26)) ⟨Rd.more (hx.below hb0).1 (by simp), hx.2⟩ hn hb)
  have H3 := Lib.hid (Blk.new w 26 (mc M0))
  have Hb0 := Lib.hid hb0
  have hz0 : (w.alloc (.cells (mc M0) 26)).heap.size = w.heap.size + 1 := by simp
  have Hz0 := Lib.hid hz0
  clear hx hn hb hb0 hz0
  go_enter Try.func19, Try.ntmps19
  go_wp2_with fail
  refine HF.out.mono ?_
  rintro e w1 ⟨s, rfl, hs, hS1, hb1⟩
  rw [Hz0.out] at hs hb1
  have HS1 := Lib.hid hS1
  have Hb1 := Lib.hid (Hb0.out.trans (hb1.mono (Nat.le_succ _)))
  have H31 := Lib.hid (H3.out.below hb1 (Nat.lt_succ_self _))
  have Hs := Lib.hid hs
  clear hS1 hb1 HF H3 Hb0
  go_wp2_with fail
  refine (draw_any w1 HS1.out).mono ?_
  rintro e w2 ⟨f, rfl, ⟨k, hk1, hk5, hfk⟩, hS2, hg2⟩
  have Hfk := Lib.hid hfk
  clear hfk
  have SP2 : Hid (SP w s A n c zs w2.heap.size f (w2.alloc (.cells (mc f) 26))) := by
    have h1 := hs
    have h2 := HS1.out.lt
    have h3 := hS2.lt
    exact ⟨hS2.alloc _, (Hb1.out.trans ((bel_s hg2 (Nat.le_of_lt h2)).mono (by omega))).alloc (by have := hg2.size; have := Hb1.out.size; omega) _, h1, (H31.out.grown hg2 (fun e => by injection e with e; omega)).alloc _, Blk.new w2 _ _, h3⟩
  clear hS2 hg2 HS1 Hb1 H31
  go_wp2_with fail
  refine (next_any 3 _ SP2.out.src).mono ?_
  rintro e w3 ⟨r, rfl, hr, _, hS3, hg3⟩
  obtain ⟨hr0, hr3⟩ := hr (by decide)
  have SP3 := Lib.hid (SP2.out.next hS3 hg3)
  clear hr hS3 hg3 SP2
  by_cases hr1 : 0 < r
  · obtain ⟨x0, _⟩ := SP3.out.box.six
    rw [Hfk.out] at x0
    go_wp2_with fail
    refine (order_any k hk5 w3 SP3.out.src).mono ?_
    rintro e w4 ⟨g, ci, L, rfl, ho, hl, hS4, hg4⟩
    have SP4 := Lib.hid (SP3.out.next hS4 hg4)
    have Ho := Lib.hid ho
    have Hl := Lib.hid hl
    clear ho hl hS4 hg4 SP3 x0
    go_wp2_with fail
    refine (l01Made_any _ k ci L w4 (OwI.rd4 Ho.out) Hl.out hk5).mono ?_
    rintro e w5 ⟨rfl, hb5⟩
    have SP5 := Lib.hid (SP4.out.below hb5)
    generalize made L = f2 at *
    obtain ⟨y0, y1, y2, y3, y4, y5⟩ := SP5.out.box.six
    obtain ⟨z0, z1, z2, z3, z4, z5⟩ := SP5.out.box.fr6
    have SP6 := Lib.hid (SP5.out.set f2)
    obtain ⟨x0, x1, x2, x3, x4, x5⟩ := SP6.out.box.six
    clear hb5 SP4 SP5 Ho Hl
    go_wp2_with fail
    refine (bad_any f2 _ SP6.out.src).mono ?_
    rintro e w7 ⟨m, rfl, _, hS7, hg7⟩
    have SP7 := SP6.out.next hS7 hg7
    obtain ⟨e0, e1, e2, e3, e4, e5⟩ := SP7.res.six
    obtain ⟨u0, u1, u2, u3, u4, u5⟩ := SP7.res.fr6
    have HR := Lib.hid (SP7.fin m)
    clear hS7 hg7 SP7 SP6 x0 x1 x2 x3 x4 x5 y0 y1 y2 y3 y4 y5 z0 z1 z2 z3 z4 z5
    go_wp2_with fail
    refine bodyPost_ret (v := .agg (mc m)) ?_ rfl ⟨m, rfl, HR.out⟩
    simp [results, Try.results19, go_sem, *]
  · obtain ⟨x0, x1, x2, x3, x4, x5⟩ := SP3.out.box.six
    go_wp2_with fail
    refine (bad_any f _ SP3.out.src).mono ?_
    rintro e w7 ⟨m, rfl, _, hS7, hg7⟩
    have SP7 := SP3.out.next hS7 hg7
    obtain ⟨e0, e1, e2, e3, e4, e5⟩ := SP7.res.six
    obtain ⟨u0, u1, u2, u3, u4, u5⟩ := SP7.res.fr6
    have HR := Lib.hid (SP7.fin m)
    clear hS7 hg7 SP7 SP3 x0 x1 x2 x3 x4 x5
    go_wp2_with fail
    refine bodyPost_ret (v := .agg (mc m)) ?_ rfl ⟨m, rfl, HR.out⟩
    simp [results, Try.results19, go_sem, *]

structure PG where
  x : Int
  q : Nat
  v : Int
def pwL (x : Int) : List Int := [0, 1, 2, 3, 5, 60, x, 1000000000000, -1, 1000000000001]
/-- what stands in the region that draws an exponent -/
structure SX (w0 : World) (s : Nat) (A : Option Addr) (n c : Nat) (zs : List Int) (q5 : Nat) (f : M) (b4 b5 b6 : Bool) (o : PG) (w : World) : Prop where
  src : b5 = false → Src w s A n c zs
  bel : Below w0.heap.size w0 w
  hs : w0.heap.size + 1 ≤ s
  res : Blk w w0.heap.size 26 (mc (if b6 then f else M0))
  box : Blk w q5 26 (mc f)
  h5 : s < q5
  h4 : b4 = true → b5 = false → OwI 2 w (s + 1) (.slice (some ⟨o.q, 0, none⟩) 10 10) (pwL o.x)
section
variable {w0 w w' : World} {s : Nat} {A : Option Addr} {n c : Nat} {zs : List Int} {q5 : Nat} {f : M} {b4 b5 b6 : Bool} {o : PG}
theorem SX.next (h : SX w0 s A n c zs q5 f b4 false b6 o w) (hS : Src w' s A n c zs) (hg : w.grownBy w' (some s)) : SX w0 s A n c zs q5 f b4 false b6 o w' :=
  have h1 := h.hs
  have h5 := h.h5
  ⟨fun _ => hS, h.bel.trans ((bel_s hg (Nat.le_of_lt (h.src rfl).lt)).mono (by omega)), h.hs, h.res.grown hg (fun e => by injection e with e; omega), h.box.grown hg (fun e => by injection e with e; omega), h.h5,
    fun e1 e2 => OwI.keep (h.h4 e1 e2) (fun q hq => hg.block q ((h.h4 e1 e2).lt q hq).2 (by have := ((h.h4 e1 e2).lt q hq).1; intro e; injection e with e; omega))⟩
theorem SX.do3 (h : SX w0 s A n c zs q5 f false false b6 o w) (hS : Src w' s A n c zs) (hg : w.grownBy w' (some s)) (x : Int) : SX w0 s A n c zs q5 f false false b6 { o with x := x } w' := by
  have k := h.next hS hg
  exact ⟨k.src, k.bel, k.hs, k.res, k.box, k.h5, by simp⟩
theorem SX.do4 (h : SX w0 s A n c zs q5 f false false b6 o w) : SX w0 s A n c zs q5 f true false b6 { o with q := w.heap.size } (w.alloc (.cells (cI (pwL o.x)).toArray 2)) := by
  have hb : Below w.heap.size w (w.alloc (.cells (cI (pwL o.x)).toArray 2)) := (Below.refl _ _).alloc (Nat.le_refl _) _
  have k := h.next ((h.src rfl).below hb) (grown_below hb _)
  exact ⟨k.src, k.bel, k.hs, k.res, k.box, k.h5, fun _ _ => OwI.lit w (pwL o.x) rfl (by decide) (h.src rfl).lt⟩
theorem SX.do5 (h : SX w0 s A n c zs q5 f true false b6 o w) (hS : Src w' s A n c zs) (hg : w.grownBy w' (some s)) (v : Int) : SX w0 s A n c zs q5 f true true b6 { o with v := v } w' := by
  have k := h.next hS hg
  exact ⟨by simp, k.bel, k.hs, k.res, k.box, k.h5, by simp⟩
theorem SX.do6 (h : SX w0 s A n c zs q5 f true true false o w) : SX w0 s A n c zs q5 f true true true o (st6 w w0.heap.size f) :=
  have h1 := h.hs
  have h5 := h.h5
  ⟨by simp, below_st6 h.bel (Nat.le_refl _) f, h.hs, h.res.st6 f, h.box.stx (by omega) f, h.h5, by simp⟩
end

set_option maxHeartbeats 1000000 in
theorem DrawPowerOf_any {A : Option Addr} {n c : Nat} {zs : List Int} (w : World) (hx : RdU w w.heap.size A zs) (hn : zs.length = n) (hb : n < 4611686018427387904) :
    Calls Try.prog 5 #[.slice A n c] w (RetDK w) := by
  have hb0 : Below w.heap.size w (w.alloc (.cells (mc M0) 26)) := (Below.refl _ _).alloc (Nat.le_refl _) _
  have HF := Lib.hid (from_any (A := A) (n := n) (c := c) (w.alloc (.cells (mc M0) 26)) ⟨Rd.more (hx.below hb0).1 (by simp), hx.2⟩ hn hb)
  have H3 := Lib.hid (Blk.new w 26 (mc M0))
  have Hb0 := Lib.hid hb0
  have hz0 : (w.alloc (.cells (mc M0) 26)).heap.size = w.heap.size + 1 := by simp
  have Hz0 := Lib.hid hz0
  clear hx hn hb hb0 hz0
  go_enter Try.func5, Try.ntmps5
  go_wp2_with fail
  refine HF.out.mono ?_
  rintro e w1 ⟨s, rfl, hs, hS1, hb1⟩
  rw [Hz0.out] at hs hb1
  have HS1 := Lib.hid hS1
  have Hb1 := Lib.hid (Hb0.out.trans (hb1.mono (Nat.le_succ _)))
  have H31 := Lib.hid (H3.out.below hb1 (Nat.lt_succ_self _))
  have Hs := Lib.hid hs
  clear hS1 hb1 HF H3 Hb0
  go_wp2_with fail
  refine (spoil_any w1 HS1.out).mono ?_
  rintro e w2 ⟨f, rfl, _, hS2, hg2⟩
  have SP2 : Hid (SP w s A n c zs w2.heap.size f (w2.alloc (.cells (mc f) 26))) := by
    have h1 := hs
    have h2 := HS1.out.lt
    have h3 := hS2.lt
    exact ⟨hS2.alloc _, (Hb1.out.trans ((bel_s hg2 (Nat.le_of_lt h2)).mono (by omega))).alloc (by have := hg2.size; have := Hb1.out.size; omega) _, h1, (H31.out.grown hg2 (fun e => by injection e with e; omega)).alloc _, Blk.new w2 _ _, h3⟩
  clear hS2 hg2 HS1 Hb1 H31
  obtain ⟨wb, hwb⟩ : ∃ wb, wb = w2.alloc (.cells (mc f) 26) := ⟨_, rfl⟩
  obtain ⟨q5, hq5⟩ : ∃ q5, q5 = w2.heap.size := ⟨_, rfl⟩
  rw [← hwb, ← hq5] at SP2
  go_wp2_with fail
  rw [← hwb, ← hq5]
  have HS0 : SX w s A n c zs q5 f false false false ⟨0, 0, 0⟩ wb.drew := by
    have k := SP2.out.below (Below.refl _ _).drew
    exact ⟨fun _ => k.src, k.bel, k.hs, k.res, k.box, k.h5, by simp⟩
  clear hwb hq5 SP2
  refine wp_region_flags [] rfl (by kernel_rfl) (by kernel_rfl) [] (by kernel_rfl) _
    (fun o : PG => [.agg (mc f), .pointer (some ⟨s, 0, none⟩), .pointer (some ⟨s, 0, none⟩), I o.x, .slice (some ⟨o.q, 0, none⟩) 10 10, I o.v, undef, I o.v])
    (by intro o; simp only [putAll, List.setIfInBounds_toArray, List.set_cons_succ, List.set_cons_zero]; rfl)
    [] rfl _
    (by intro o; simp only [setAll, List.setIfInBounds_toArray, List.set_cons_succ, List.set_cons_zero]; rfl) (by kernel_rfl)
    (fun d o w' => SX w s A n c zs q5 f (d 4) (d 5) (d 6) o w')
    ⟨0, 0, 0⟩ HS0 ?hop ?hQ
  case hop =>
    refine ⟨?_, ?_, ?_, ?_, ?_, ?_, ?_, ?_, trivial⟩
    · refine ⟨rfl, Flag.pure (fun _ _ _ h => h) fun d c w' hd hdeps hcl hS => ?_⟩
      obtain ⟨x0, x1, x2, x3, x4, x5⟩ := hS.box.six
      clear hS hdeps hcl hd
      unfold Oper.wp
      go_simp
      exact ⟨rfl, fun t ht => by injection ht with ht; subst ht; rfl, rfl⟩
    · refine ⟨rfl, Flag.pure (fun _ _ _ h => h) fun d c w' hd hdeps hcl hS => ?_⟩
      skip
      clear hS hdeps hcl hd
      unfold Oper.wp
      go_simp
      exact ⟨rfl, fun t ht => by injection ht with ht; subst ht; rfl, rfl⟩
    · refine ⟨rfl, Flag.pure (fun _ _ _ h => h) fun d c w' hd hdeps hcl hS => ?_⟩
      skip
      clear hS hdeps hcl hd
      unfold Oper.wp
      go_simp
      exact ⟨rfl, fun t ht => by injection ht with ht; subst ht; rfl, rfl⟩
    · refine ⟨rfl, fun d o w' hd hdeps hcl hS => ?_⟩
      have hS : SX w s A n c zs q5 f (d 4) (d 5) (d 6) o w' := hS
      have d4 := hcl.down (k := 4) (j := 3) rfl (by kernel_rfl) hd
      have d5 := hcl.down (k := 5) (j := 4) rfl (by kernel_rfl) d4
      rw [d4, d5] at hS
      have H := Lib.hid hS
      clear hS hdeps hcl
      unfold Oper.wp
      go_simp
      refine (next_any 1000 w' (H.out.src rfl)).mono ?_
      rintro e w6 ⟨r, rfl, _, _, hS6, hg6⟩
      refine FlagPost.own ({ o with x := r } : PG) 13 (I r) rfl rfl rfl ?_ rfl
      show SX _ _ _ _ _ _ _ _ (d 4) (d 5) (d 6) _ _
      rw [d4, d5]
      exact H.out.do3 hS6 hg6 r
    · refine ⟨rfl, fun d o w' hd hdeps hcl hS => ?_⟩
      have hS : SX w s A n c zs q5 f (d 4) (d 5) (d 6) o w' := hS
      have d5 := hcl.down (k := 5) (j := 4) rfl (by kernel_rfl) hd
      rw [hd, d5] at hS
      have H := Lib.hid hS.do4
      clear hS hdeps hcl
      unfold Oper.wp
      go_simp
      refine FlagPost.own ({ o with q := w'.heap.size } : PG) 14 (.slice (some ⟨w'.heap.size, 0, none⟩) 10 10) rfl rfl rfl ?_ rfl
      show SX _ _ _ _ _ _ _ _ true (d 5) (d 6) _ _
      rw [d5]
      exact H.out
    · refine ⟨rfl, fun d o w' hd hdeps hcl hS => ?_⟩
      have hS : SX w s A n c zs q5 f (d 4) (d 5) (d 6) o w' := hS
      have d4 := hdeps 4 (by kernel_rfl)
      have d7 := hcl.down (k := 7) (j := 5) rfl (by kernel_rfl) hd
      rw [hd, d4] at hS
      have H := Lib.hid hS
      clear hS hdeps hcl
      unfold Oper.wp
      go_simp
      refine (pick_any o.q 10 10 (pwL o.x) w' (H.out.src rfl) (H.out.h4 rfl rfl) rfl (by decide) (by decide)).mono ?_
      rintro e w6 ⟨r, rfl, hr, hS6, hg6⟩
      refine ⟨({ o with v := r } : PG), [(15, I r), (3, I r)], ⟨rfl, fun t ht => by injection ht with ht; subst ht; rfl⟩, ?_, rfl, ?_⟩
      · show SX _ _ _ _ _ _ _ _ (d 4) true (d 6) _ _
        rw [d4]
        exact H.out.do5 hS6 hg6 r
      · intro p hp
        simp at hp
        rcases hp with rfl | rfl
        · exact .inl rfl
        · exact .inr ⟨7, _, rfl, rfl, by decide, d7⟩
    · refine ⟨rfl, fun d o w' hd hdeps hcl hS => ?_⟩
      have hS : SX w s A n c zs q5 f (d 4) (d 5) (d 6) o w' := hS
      have d5 := hdeps 5 (by kernel_rfl)
      have d4 := hcl.up (k := 5) (j := 4) rfl (by kernel_rfl) d5
      rw [hd, d4, d5] at hS
      obtain ⟨x0, x1, x2, x3, x4, x5⟩ := hS.res.six
      obtain ⟨z0, z1, z2, z3, z4, z5⟩ := hS.res.fr6
      have H := Lib.hid hS.do6
      clear hS hdeps hcl
      unfold Oper.wp
      go_simp
      refine ⟨o, [], ⟨rfl, fun t ht => by cases ht⟩, ?_, rfl, by simp⟩
      show SX _ _ _ _ _ _ _ _ (d 4) (d 5) true _ _
      rw [d4, d5]
      exact H.out
    · refine ⟨rfl, Flag.pure (fun _ _ _ h => h) fun d c w' hd hdeps hcl hS => ?_⟩
      skip
      clear hS hdeps hcl hd
      unfold Oper.wp
      go_simp
      exact ⟨rfl, fun t ht => by injection ht with ht; subst ht; rfl, rfl⟩
  case hQ =>
  intro fl o we hall hS
  have hS : SX w s A n c zs q5 f (fl 4) (fl 5) (fl 6) o we := hS
  rw [hall 6 (by decide)] at hS
  obtain ⟨x, q, v⟩ := o
  have k3 := hS.res
  rw [if_pos rfl] at k3
  obtain ⟨x0, x1, x2, x3, x4, x5⟩ := k3.six
  have HR : Hid (RetDK w (.returned (.tuple #[.agg (mc f), I v])) we) := ⟨f, v, rfl, hS.bel⟩
  clear hS hall k3 HS0
  go_wp2_with fail
  refine bodyPost_ret (v := .tuple #[.agg (mc f), I v]) ?_ rfl HR.out
  simp [results, Try.results5, go_sem, *]

structure RG where
  m3 : M
  m4 : M
/-- what stands in the region that spoils both maps -/
structure SR2 (w0 : World) (s : Nat) (A : Option Addr) (n c : Nat) (zs : List Int) (q5 q6 : Nat) (f p : M) (b5 b6 b7 : Bool) (o : RG) (w : World) : Prop where
  src : b5 = false → Src w s A n c zs
  bel : Below w0.heap.size w0 w
  hs : w0.heap.size + 2 ≤ s
  c2 : Blk w w0.heap.size 26 (mc (if b6 then o.m3 else M0))
  c3 : Blk w (w0.heap.size + 1) 26 (mc (if b7 then o.m4 else M0))
  x5 : Blk w q5 26 (mc f)
  x6 : Blk w q6 26 (mc p)
  h5 : s < q5
  h6 : s < q6
  h56 : q5 ≠ q6
section
variable {w0 w w' : World} {s : Nat} {A : Option Addr} {n c : Nat} {zs : List Int} {q5 q6 : Nat} {f p : M} {b5 b6 b7 : Bool} {o : RG}
theorem SR2.next (h : SR2 w0 s A n c zs q5 q6 f p false b6 b7 o w) (hS : Src w' s A n c zs) (hg : w.grownBy w' (some s)) (b5 : Bool) : SR2 w0 s A n c zs q5 q6 f p b5 b6 b7 o w' :=
  have h1 := h.hs
  have h5 := h.h5
  have h6 := h.h6
  ⟨fun _ => hS, h.bel.trans ((bel_s hg (Nat.le_of_lt (h.src rfl).lt)).mono (by omega)), h.hs, h.c2.grown hg (fun e => by injection e with e; omega), h.c3.grown hg (fun e => by injection e with e; omega),
    h.x5.grown hg (fun e => by injection e with e; omega), h.x6.grown hg (fun e => by injection e with e; omega), h.h5, h.h6, h.h56⟩
theorem SR2.below (h : SR2 w0 s A n c zs q5 q6 f p false b6 b7 o w) (hb : Below w.heap.size w w') : SR2 w0 s A n c zs q5 q6 f p false b6 b7 o w' := h.next ((h.src rfl).below hb) (grown_below hb _) false
theorem SR2.do2 (h : SR2 w0 s A n c zs q5 q6 f p false false b7 o w) (hS : Src w' s A n c zs) (hg : w.grownBy w' (some s)) (m : M) : SR2 w0 s A n c zs q5 q6 f p false false b7 { o with m3 := m } w' := by
  have k := h.next hS hg false
  exact ⟨k.src, k.bel, k.hs, k.c2, k.c3, k.x5, k.x6, k.h5, k.h6, k.h56⟩
theorem SR2.do5 (h : SR2 w0 s A n c zs q5 q6 f p false b6 false o w) (hS : Src w' s A n c zs) (hg : w.grownBy w' (some s)) (m : M) : SR2 w0 s A n c zs q5 q6 f p true b6 false { o with m4 := m } w' := by
  have k := h.next hS hg true
  exact ⟨by simp, k.bel, k.hs, k.c2, k.c3, k.x5, k.x6, k.h5, k.h6, k.h56⟩
theorem SR2.do6 (h : SR2 w0 s A n c zs q5 q6 f p true false b7 o w) : SR2 w0 s A n c zs q5 q6 f p true true b7 o (st6 w w0.heap.size o.m3) :=
  have h1 := h.hs
  have h5 := h.h5
  have h6 := h.h6
  ⟨by simp, below_st6 h.bel (Nat.le_refl _) _, h.hs, h.c2.st6 _, h.c3.stx (by omega) _, h.x5.stx (by omega) _, h.x6.stx (by omega) _, h.h5, h.h6, h.h56⟩
theorem SR2.do7 (h : SR2 w0 s A n c zs q5 q6 f p true b6 false o w) : SR2 w0 s A n c zs q5 q6 f p true b6 true o (st6 w (w0.heap.size + 1) o.m4) :=
  have h1 := h.hs
  have h5 := h.h5
  have h6 := h.h6
  ⟨by simp, below_st6 h.bel (by omega) _, h.hs, h.c2.stx (by omega) _, h.c3.st6 _, h.x5.stx (by omega) _, h.x6.stx (by omega) _, h.h5, h.h6, h.h56⟩
theorem SR2.set6 (h : SR2 w0 s A n c zs q5 q6 f p false false false o w) (m : M) : SR2 w0 s A n c zs q5 q6 f m false false false o (st6 w q6 m) :=
  have h1 := h.hs
  have h5 := h.h5
  have h6 := h.h6
  ⟨fun _ => (h.src rfl).st6 h.h6 m, below_st6 h.bel (by omega) m, h.hs, h.c2.stx (by omega) m, h.c3.stx (by omega) m, h.x5.stx h.h56 m, h.x6.st6 m, h.h5, h.h6, h.h56⟩
end


theorem Blk.onB {w w' : World} {g : Nat} {t : TypeId} {cs : Array Value} (h : Blk w g t cs) (hb : Below w.heap.size w w') : Blk w' g t cs := h.below hb h.lt

set_option maxHeartbeats 2000000 in
theorem DrawRenumberMap_any {A : Option Addr} {n c : Nat} {zs : List Int} (w : World) (hx : RdU w w.heap.size A zs) (hn : zs.length = n) (hb : n < 4611686018427387904) :
    Calls Try.prog 23 #[.slice A n c] w (RetD00 w) := by
  obtain ⟨wa, hwa⟩ : ∃ wa, wa = (w.alloc (.cells (mc M0) 26)).alloc (.cells (mc M0) 26) := ⟨_, rfl⟩
  have hb0 : Below w.heap.size w wa := by rw [hwa]; exact ((Below.refl _ _).alloc (Nat.le_refl _) _).alloc (by simp) _
  have H3 : Hid (Blk wa w.heap.size 26 (mc M0)) := by show Blk _ _ _ _; rw [hwa]; exact (Blk.new w _ _).alloc _
  have H4 : Hid (Blk wa (w.heap.size + 1) 26 (mc M0)) := by show Blk _ _ _ _; rw [hwa]; exact Blk.new' _ _ _ (by simp)
  have hz0 : wa.heap.size = w.heap.size + 2 := by rw [hwa]; simp
  have HF := Lib.hid (from_any (A := A) (n := n) (c := c) wa ⟨Rd.more (hx.below hb0).1 (by omega), hx.2⟩ hn hb)
  have Hb0 := Lib.hid hb0
  have Hz0 := Lib.hid hz0
  rw [hwa] at HF
  clear hx hn hb hb0 hz0
  go_enter Try.func23, Try.ntmps23
  go_wp2_with fail
  refine HF.out.mono ?_
  rintro e w1 ⟨s, rfl, hs, hS1, hb1⟩
  rw [← hwa] at hs hb1
  rw [Hz0.out] at hs hb1
  clear hwa
  have HS1 := Lib.hid hS1
  have Hb1 := Lib.hid (Hb0.out.trans (hb1.mono (by omega)))
  have H31 := Lib.hid (H3.out.below hb1 (by omega))
  have H41 := Lib.hid (H4.out.below hb1 (by omega))
  have hz1 := hb1.size
  rw [Hz0.out] at hz1
  clear hS1 hb1 HF H3 H4 Hb0
  go_wp2_with fail
  refine (draw_any w1 HS1.out).mono ?_
  rintro e w2 ⟨f, rfl, ⟨k, hk1, hk5, hfk⟩, hS2, hg2⟩
  have x0 := (Blk.new w2 26 (mc f)).six.1
  rw [hfk] at x0
  clear hfk
  have hlt2 := hS2.lt
  have hsz2 := hg2.size
  have Hb2 := Lib.hid ((Hb1.out.trans ((bel_s hg2 (Nat.le_of_lt HS1.out.lt)).mono (by omega))).alloc (by have := Hb1.out.size; omega) (.cells (mc f) 26))
  have H32 := Lib.hid ((H31.out.grown hg2 (fun e => by injection e with e; omega)).alloc (.cells (mc f) 26))
  have H42 := Lib.hid ((H41.out.grown hg2 (fun e => by injection e with e; omega)).alloc (.cells (mc f) 26))
  have H52 := Lib.hid (Blk.new w2 26 (mc f))
  have HS2 := Lib.hid (hS2.alloc (.cells (mc f) 26))
  clear hS2 hg2 HS1 Hb1 H31 H41
  go_wp2_with fail
  refine (order_any k hk5 _ HS2.out).mono ?_
  rintro e w4 ⟨g, ci, L, rfl, ho, hl, hS4, hg4⟩
  have Hb4 := Lib.hid (Hb2.out.trans ((bel_s hg4 (Nat.le_of_lt HS2.out.lt)).mono (by omega)))
  have H34 := Lib.hid (H32.out.grown hg4 (fun e => by injection e with e; omega))
  have H44 := Lib.hid (H42.out.grown hg4 (fun e => by injection e with e; omega))
  have H54 := Lib.hid (H52.out.grown hg4 (fun e => by injection e with e; omega))
  have HS4 := Lib.hid hS4
  have Ho := Lib.hid ho
  have Hl := Lib.hid hl
  clear ho hl hS4 hg4 Hb2 H32 H42 H52 HS2 x0
  go_wp2_with fail
  refine (l01Made_any _ k ci L w4 (OwI.rd4 Ho.out) Hl.out hk5).mono ?_
  rintro e w5 ⟨rfl, hb5⟩
  generalize made L = p0 at *
  have hsz5 := hb5.size
  have hq5 := H54.out.lt
  have S0 : Hid (SR2 w s A n c zs w2.heap.size w5.heap.size f p0 false false false ⟨M0, M0⟩ (w5.alloc (.cells (mc p0) 26))) := by
    have h1 := Hb4.out.size
    have h2 := HS4.out.lt
    exact ⟨fun _ => (HS4.out.below hb5).alloc _, (Hb4.out.trans (hb5.mono h1)).alloc (by omega) _, hs, (H34.out.onB hb5).alloc _, (H44.out.onB hb5).alloc _, (H54.out.onB hb5).alloc _, Blk.new w5 _ _, hlt2, by omega, by omega⟩
  clear hb5 Hb4 H34 H44 H54 HS4 Ho Hl
  go_wp2_with fail
  refine (next_any 8 _ (S0.out.src rfl)).mono ?_
  rintro e w6 ⟨r, rfl, _, _, hS6, hg6⟩
  have S6 := Lib.hid (S0.out.next hS6 hg6 false)
  clear hS6 hg6 S0
  go_upto_if 18 with fail
  go_cut [] from 27 (fun wx => ∃ p', SR2 w s A n c zs w2.heap.size w5.heap.size f p' false false false ⟨M0, M0⟩ wx)
  case first =>
    by_cases r0 : r = 0
    · subst r0
      go_wp2_with fail
      refine (draw_any w6 (S6.out.src rfl)).mono ?_
      rintro e w7 ⟨m, rfl, _, hS7, hg7⟩
      have S7 := S6.out.next hS7 hg7 false
      obtain ⟨y0, y1, y2, y3, y4, y5⟩ := S7.x6.six
      obtain ⟨z0, z1, z2, z3, z4, z5⟩ := S7.x6.fr6
      have S8 := Lib.hid (S7.set6 m)
      clear hS7 hg7 S7 S6
      go_wp2_with fail
      go_meet
      exact ⟨_, S8.out⟩
    · have r0f : (r == 0) = false := by simpa using r0
      clear r0
      go_wp2_with fail
      go_meet
      exact ⟨_, S6.out⟩
  case rest =>
    clear S6
    obtain ⟨p, hS⟩ := hcut
    have S9 := Lib.hid (hS.below (Below.refl _ _).drew)
    clear hS
    generalize w5.heap.size = q6 at *
    generalize w2.heap.size = q5 at *
    go_upto_region 6 with fail
    refine wp_region_flags [] rfl (by kernel_rfl) (by kernel_rfl) [] (by kernel_rfl) _
      (fun o : RG => [.pointer (some ⟨s, 0, none⟩), .agg (mc f), .agg (mc o.m3), .pointer (some ⟨s, 0, none⟩), .agg (mc p), .agg (mc o.m4), undef, undef])
      (by intro o; simp only [putAll, List.setIfInBounds_toArray, List.set_cons_succ, List.set_cons_zero]; rfl)
      [] rfl _
      (by intro o; simp only [setAll, List.setIfInBounds_toArray, List.set_cons_succ, List.set_cons_zero]; rfl) (by kernel_rfl)
      (fun d o w' => SR2 w s A n c zs q5 q6 f p (d 5) (d 6) (d 7) o w')
      ⟨M0, M0⟩ S9.out ?hop ?hQ
    case hop =>
      refine ⟨?_, ?_, ?_, ?_, ?_, ?_, ?_, ?_, trivial⟩
      · refine ⟨rfl, Flag.pure (fun _ _ _ h => h) fun d c w' hd hdeps hcl hS => ?_⟩
        skip
        clear hS hdeps hcl hd
        unfold Oper.wp
        go_simp
        exact ⟨rfl, fun t ht => by injection ht with ht; subst ht; rfl, rfl⟩
      · refine ⟨rfl, Flag.pure (fun _ _ _ h => h) fun d c w' hd hdeps hcl hS => ?_⟩
        obtain ⟨x0, x1, x2, x3, x4, x5⟩ := hS.x5.six
        clear hS hdeps hcl hd
        unfold Oper.wp
        go_simp
        exact ⟨rfl, fun t ht => by injection ht with ht; subst ht; rfl, rfl⟩
      · refine ⟨rfl, fun d o w' hd hdeps hcl hS => ?_⟩
        have hS : SR2 w s A n c zs q5 q6 f p (d 5) (d 6) (d 7) o w' := hS
        have d5 := hcl.down (k := 5) (j := 2) rfl (by kernel_rfl) hd
        have d6 := hcl.down (k := 6) (j := 5) rfl (by kernel_rfl) d5
        rw [d5, d6] at hS
        have H := Lib.hid hS
        clear hS hdeps hcl
        unfold Oper.wp
        go_simp
        refine (bad_any f w' (H.out.src rfl)).mono ?_
        rintro e w6 ⟨m, rfl, _, hS6, hg6⟩
        refine FlagPost.own ({ o with m3 := m } : RG) 23 (.agg (mc m)) rfl rfl rfl ?_ rfl
        show SR2 _ _ _ _ _ _ _ _ _ _ (d 5) (d 6) (d 7) _ _
        rw [d5, d6]
        exact H.out.do2 hS6 hg6 m
      · refine ⟨rfl, Flag.pure (fun _ _ _ h => h) fun d c w' hd hdeps hcl hS => ?_⟩
        skip
        clear hS hdeps hcl hd
        unfold Oper.wp
        go_simp
        exact ⟨rfl, fun t ht => by injection ht with ht; subst ht; rfl, rfl⟩
      · refine ⟨rfl, Flag.pure (fun _ _ _ h => h) fun d c w' hd hdeps hcl hS => ?_⟩
        obtain ⟨x0, x1, x2, x3, x4, x5⟩ := hS.x6.six
        clear hS hdeps hcl hd
        unfold Oper.wp
        go_simp
        exact ⟨rfl, fun t ht => by injection ht with ht; subst ht; rfl, rfl⟩
      · refine ⟨rfl, fun d o w' hd hdeps hcl hS => ?_⟩
        have hS : SR2 w s A n c zs q5 q6 f p (d 5) (d 6) (d 7) o w' := hS
        have d7 := hcl.down (k := 7) (j := 5) rfl (by kernel_rfl) hd
        rw [hd, d7] at hS
        have H := Lib.hid hS
        clear hS hdeps hcl
        unfold Oper.wp
        go_simp
        refine (bad_any p w' (H.out.src rfl)).mono ?_
        rintro e w6 ⟨m, rfl, _, hS6, hg6⟩
        refine FlagPost.own ({ o with m4 := m } : RG) 26 (.agg (mc m)) rfl rfl rfl ?_ rfl
        show SR2 _ _ _ _ _ _ _ _ _ _ true (d 6) (d 7) _ _
        rw [d7]
        exact H.out.do5 hS6 hg6 m
      · refine ⟨rfl, fun d o w' hd hdeps hcl hS => ?_⟩
        have hS : SR2 w s A n c zs q5 q6 f p (d 5) (d 6) (d 7) o w' := hS
        have d5 := hdeps 5 (by kernel_rfl)
        rw [hd, d5] at hS
        obtain ⟨x0, x1, x2, x3, x4, x5⟩ := hS.c2.six
        obtain ⟨z0, z1, z2, z3, z4, z5⟩ := hS.c2.fr6
        have H := Lib.hid hS.do6
        clear hS hdeps hcl
        unfold Oper.wp
        go_simp
        refine ⟨o, [], ⟨rfl, fun t ht => by cases ht⟩, ?_, rfl, by simp⟩
        show SR2 _ _ _ _ _ _ _ _ _ _ (d 5) true (d 7) _ _
        rw [d5]
        exact H.out
      · refine ⟨rfl, fun d o w' hd hdeps hcl hS => ?_⟩
        have hS : SR2 w s A n c zs q5 q6 f p (d 5) (d 6) (d 7) o w' := hS
        have d5 := hdeps 5 (by kernel_rfl)
        rw [hd, d5] at hS
        obtain ⟨x0, x1, x2, x3, x4, x5⟩ := hS.c3.six
        obtain ⟨z0, z1, z2, z3, z4, z5⟩ := hS.c3.fr6
        have H := Lib.hid hS.do7
        clear hS hdeps hcl
        unfold Oper.wp
        go_simp
        refine ⟨o, [], ⟨rfl, fun t ht => by cases ht⟩, ?_, rfl, by simp⟩
        show SR2 _ _ _ _ _ _ _ _ _ _ (d 5) (d 6) true _ _
        rw [d5]
        exact H.out
    case hQ =>
    intro fl o we hall hS
    have hS : SR2 w s A n c zs q5 q6 f p (fl 5) (fl 6) (fl 7) o we := hS
    rw [hall 6 (by decide), hall 7 (by decide)] at hS
    obtain ⟨m3, m4⟩ := o
    have k3 := hS.c2
    have k4 := hS.c3
    rw [if_pos rfl] at k3 k4
    obtain ⟨x0, x1, x2, x3, x4, x5⟩ := k3.six
    obtain ⟨y0, y1, y2, y3, y4, y5⟩ := k4.six
    have HR : Hid (RetD00 w (.returned (.tuple #[.agg (mc m3), .agg (mc m4)])) we) := ⟨m3, m4, rfl, hS.bel⟩
    clear hS hall k3 k4 S9
    go_wp2_with fail
    refine bodyPost_ret (v := .tuple #[.agg (mc m3), .agg (mc m4)]) ?_ rfl HR.out
    simp [results, Try.results23, go_sem, *]
end Go.Proofs.Ytkbfocoaobiijaa
