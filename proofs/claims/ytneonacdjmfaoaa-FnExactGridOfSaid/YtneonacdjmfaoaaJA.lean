/- Contracts of the closures that ask whether an element is like a given one; the monoid has at most 300 elements. -/
import Derived.Test.YtneonacdjmfaoaaJ9
namespace Go.Proofs.Ytneonacdjmfaoaa
open Go.RowKit
set_option maxRecDepth 100000
set_option linter.unusedSimpArgs false
set_option linter.unusedVariables false

theorem gw1_any {n : Int} {d b1 b2 bv ov cv x i : Nat} {E : List M} (w : World) (hI : IdeAt w d E) (hE : E.length ≤ 300) (hm : Mnd n E) (hi : i < E.length) (hx : x < E.length)
    (C1 : w.cell? ⟨b1, 0, none⟩ = some (.pointer (some ⟨d, 0, none⟩))) (C2 : w.cell? ⟨b2, 0, none⟩ = some (.slice (some ⟨bv, ov, none⟩) 1 cv)) (C4 : w.cell? ⟨bv, ov, none⟩ = some (I x)) :
    Calls Try.prog 59 #[I i, .pointer (some ⟨b1, 0, none⟩), .pointer (some ⟨b2, 0, none⟩)] w fun e w' => e = .returned (.bool (sameK E 2 i x)) ∧ Below w.heap.size w w' := by
  have l1 := World.block_lt_of_cell? w ⟨b1, 0, none⟩ C1
  have l2 := World.block_lt_of_cell? w ⟨b2, 0, none⟩ C2
  have l4 := World.block_lt_of_cell? w ⟨bv, ov, none⟩ C4
  obtain ⟨s, hs⟩ : ∃ s, s = sameK E 2 i x := ⟨_, rfl⟩
  have Hs : Hid (sameK E 2 i x = s) := hs.symm
  have D1 := Lib.hid C1
  have D2 := Lib.hid C2
  have D4 := Lib.hid C4
  have HI := Lib.hid hI
  have Hm := Lib.hid hm
  rw [← hs]
  clear hI C1 C2 C4 hs hm
  go_enter Try.func59, Try.ntmps59
  go_wp2_with fail
  refine wp_region_same [] rfl (by kernel_rfl) (by kernel_rfl) (by kernel_rfl) (fun w' => Below w.heap.size w w') _
    [.pointer (some ⟨d, 0, none⟩), I i, .slice (some ⟨bv, ov, none⟩) 1 cv, .pointer (some ⟨bv, ov, none⟩), I x, .bool s, .bool s]
    (by simp only [putAll, List.setIfInBounds_toArray, List.set_cons_succ, List.set_cons_zero]; rfl) (Below.refl _ _).drew ?hop ?hQ
  case hop =>
    refine FixBL.toL (fun w' w'' hS hb => hS.trans (hb.mono hS.size)) _ _ ?_
    refine ⟨.inr ?_, .inr ?_, .inr ?_, .inr ?_, .inr ?_, .inr ?_, .inr ?_, trivial⟩
    · (with_reducible refine FixB.of ?_ ?_; rfl; intro w' hS; have s0 := (hS.cell (p := ⟨b1, 0, none⟩) l1).trans D1.out; have s1 := (hS.cell (p := ⟨b2, 0, none⟩) l2).trans D2.out; have s2 := (hS.cell (p := ⟨bv, ov, none⟩) l4).trans D4.out; clear hS; unfold Oper.wp; go_simp; first | done | exact Below.refl _ _)
    · (with_reducible refine FixB.of ?_ ?_; rfl; intro w' hS; have s0 := (hS.cell (p := ⟨b1, 0, none⟩) l1).trans D1.out; have s1 := (hS.cell (p := ⟨b2, 0, none⟩) l2).trans D2.out; have s2 := (hS.cell (p := ⟨bv, ov, none⟩) l4).trans D4.out; clear hS; unfold Oper.wp; go_simp; first | done | exact Below.refl _ _)
    · (with_reducible refine FixB.of ?_ ?_; rfl; intro w' hS; have s0 := (hS.cell (p := ⟨b1, 0, none⟩) l1).trans D1.out; have s1 := (hS.cell (p := ⟨b2, 0, none⟩) l2).trans D2.out; have s2 := (hS.cell (p := ⟨bv, ov, none⟩) l4).trans D4.out; clear hS; unfold Oper.wp; go_simp; first | done | exact Below.refl _ _)
    · (with_reducible refine FixB.of ?_ ?_; rfl; intro w' hS; have s0 := (hS.cell (p := ⟨b1, 0, none⟩) l1).trans D1.out; have s1 := (hS.cell (p := ⟨b2, 0, none⟩) l2).trans D2.out; have s2 := (hS.cell (p := ⟨bv, ov, none⟩) l4).trans D4.out; clear hS; unfold Oper.wp; go_simp; first | done | exact Below.refl _ _)
    · (with_reducible refine FixB.of ?_ ?_; rfl; intro w' hS; have s0 := (hS.cell (p := ⟨b1, 0, none⟩) l1).trans D1.out; have s1 := (hS.cell (p := ⟨b2, 0, none⟩) l2).trans D2.out; have s2 := (hS.cell (p := ⟨bv, ov, none⟩) l4).trans D4.out; clear hS; unfold Oper.wp; go_simp; first | done | exact Below.refl _ _)
    · (with_reducible refine FixB.of ?_ ?_; rfl; intro w' hS; have s3 := Lib.hid hS; unfold Oper.wp; clear hS; go_simp; refine ((Hs.out ▸ alike_any (kind := 2) _ (HI.out.below s3.out (Nat.le_refl _)) hE Hm.out hi hx)).mono ?_; rintro e w1 ⟨rfl, hb⟩; exact ⟨rfl, hb⟩)
    · (with_reducible refine FixB.of ?_ ?_; rfl; intro w' hS; have s0 := (hS.cell (p := ⟨b1, 0, none⟩) l1).trans D1.out; have s1 := (hS.cell (p := ⟨b2, 0, none⟩) l2).trans D2.out; have s2 := (hS.cell (p := ⟨bv, ov, none⟩) l4).trans D4.out; clear hS; unfold Oper.wp; go_simp; first | done | exact Below.refl _ _)
  case hQ =>
  intro wc hS _
  have HB2 := Lib.hid hS
  clear hS
  go_wp2
  go_ret
  exact ⟨rfl, HB2.out⟩

theorem gr1_any {n : Int} {d b1 b2 bv ov cv x i : Nat} {E : List M} (w : World) (hI : IdeAt w d E) (hE : E.length ≤ 300) (hm : Mnd n E) (hi : i < E.length) (hx : x < E.length)
    (C1 : w.cell? ⟨b1, 0, none⟩ = some (.pointer (some ⟨d, 0, none⟩))) (C2 : w.cell? ⟨b2, 0, none⟩ = some (.slice (some ⟨bv, ov, none⟩) 1 cv)) (C4 : w.cell? ⟨bv, ov, none⟩ = some (I x)) :
    Calls Try.prog 64 #[I i, .pointer (some ⟨b1, 0, none⟩), .pointer (some ⟨b2, 0, none⟩)] w fun e w' => e = .returned (.bool (sameK E 3 i x)) ∧ Below w.heap.size w w' := by
  have l1 := World.block_lt_of_cell? w ⟨b1, 0, none⟩ C1
  have l2 := World.block_lt_of_cell? w ⟨b2, 0, none⟩ C2
  have l4 := World.block_lt_of_cell? w ⟨bv, ov, none⟩ C4
  obtain ⟨s, hs⟩ : ∃ s, s = sameK E 3 i x := ⟨_, rfl⟩
  have Hs : Hid (sameK E 3 i x = s) := hs.symm
  have D1 := Lib.hid C1
  have D2 := Lib.hid C2
  have D4 := Lib.hid C4
  have HI := Lib.hid hI
  have Hm := Lib.hid hm
  rw [← hs]
  clear hI C1 C2 C4 hs hm
  go_enter Try.func64, Try.ntmps64
  go_wp2_with fail
  refine wp_region_same [] rfl (by kernel_rfl) (by kernel_rfl) (by kernel_rfl) (fun w' => Below w.heap.size w w') _
    [.pointer (some ⟨d, 0, none⟩), I i, .slice (some ⟨bv, ov, none⟩) 1 cv, .pointer (some ⟨bv, ov, none⟩), I x, .bool s, .bool s]
    (by simp only [putAll, List.setIfInBounds_toArray, List.set_cons_succ, List.set_cons_zero]; rfl) (Below.refl _ _).drew ?hop ?hQ
  case hop =>
    refine FixBL.toL (fun w' w'' hS hb => hS.trans (hb.mono hS.size)) _ _ ?_
    refine ⟨.inr ?_, .inr ?_, .inr ?_, .inr ?_, .inr ?_, .inr ?_, .inr ?_, trivial⟩
    · (with_reducible refine FixB.of ?_ ?_; rfl; intro w' hS; have s0 := (hS.cell (p := ⟨b1, 0, none⟩) l1).trans D1.out; have s1 := (hS.cell (p := ⟨b2, 0, none⟩) l2).trans D2.out; have s2 := (hS.cell (p := ⟨bv, ov, none⟩) l4).trans D4.out; clear hS; unfold Oper.wp; go_simp; first | done | exact Below.refl _ _)
    · (with_reducible refine FixB.of ?_ ?_; rfl; intro w' hS; have s0 := (hS.cell (p := ⟨b1, 0, none⟩) l1).trans D1.out; have s1 := (hS.cell (p := ⟨b2, 0, none⟩) l2).trans D2.out; have s2 := (hS.cell (p := ⟨bv, ov, none⟩) l4).trans D4.out; clear hS; unfold Oper.wp; go_simp; first | done | exact Below.refl _ _)
    · (with_reducible refine FixB.of ?_ ?_; rfl; intro w' hS; have s0 := (hS.cell (p := ⟨b1, 0, none⟩) l1).trans D1.out; have s1 := (hS.cell (p := ⟨b2, 0, none⟩) l2).trans D2.out; have s2 := (hS.cell (p := ⟨bv, ov, none⟩) l4).trans D4.out; clear hS; unfold Oper.wp; go_simp; first | done | exact Below.refl _ _)
    · (with_reducible refine FixB.of ?_ ?_; rfl; intro w' hS; have s0 := (hS.cell (p := ⟨b1, 0, none⟩) l1).trans D1.out; have s1 := (hS.cell (p := ⟨b2, 0, none⟩) l2).trans D2.out; have s2 := (hS.cell (p := ⟨bv, ov, none⟩) l4).trans D4.out; clear hS; unfold Oper.wp; go_simp; first | done | exact Below.refl _ _)
    · (with_reducible refine FixB.of ?_ ?_; rfl; intro w' hS; have s0 := (hS.cell (p := ⟨b1, 0, none⟩) l1).trans D1.out; have s1 := (hS.cell (p := ⟨b2, 0, none⟩) l2).trans D2.out; have s2 := (hS.cell (p := ⟨bv, ov, none⟩) l4).trans D4.out; clear hS; unfold Oper.wp; go_simp; first | done | exact Below.refl _ _)
    · (with_reducible refine FixB.of ?_ ?_; rfl; intro w' hS; have s3 := Lib.hid hS; unfold Oper.wp; clear hS; go_simp; refine ((Hs.out ▸ alike_any (kind := 3) _ (HI.out.below s3.out (Nat.le_refl _)) hE Hm.out hi hx)).mono ?_; rintro e w1 ⟨rfl, hb⟩; exact ⟨rfl, hb⟩)
    · (with_reducible refine FixB.of ?_ ?_; rfl; intro w' hS; have s0 := (hS.cell (p := ⟨b1, 0, none⟩) l1).trans D1.out; have s1 := (hS.cell (p := ⟨b2, 0, none⟩) l2).trans D2.out; have s2 := (hS.cell (p := ⟨bv, ov, none⟩) l4).trans D4.out; clear hS; unfold Oper.wp; go_simp; first | done | exact Below.refl _ _)
  case hQ =>
  intro wc hS _
  have HB2 := Lib.hid hS
  clear hS
  go_wp2
  go_ret
  exact ⟨rfl, HB2.out⟩

theorem gr2_any {n : Int} {d b1 b2 bv ov cv x i : Nat} {E : List M} (w : World) (hI : IdeAt w d E) (hE : E.length ≤ 300) (hm : Mnd n E) (hi : i < E.length) (hx : x < E.length)
    (C1 : w.cell? ⟨b1, 0, none⟩ = some (.pointer (some ⟨d, 0, none⟩))) (C2 : w.cell? ⟨b2, 0, none⟩ = some (.slice (some ⟨bv, ov, none⟩) 1 cv)) (C4 : w.cell? ⟨bv, ov, none⟩ = some (I x)) :
    Calls Try.prog 65 #[I i, .pointer (some ⟨b1, 0, none⟩), .pointer (some ⟨b2, 0, none⟩)] w fun e w' => e = .returned (.bool (sameK E 2 i x)) ∧ Below w.heap.size w w' := by
  have l1 := World.block_lt_of_cell? w ⟨b1, 0, none⟩ C1
  have l2 := World.block_lt_of_cell? w ⟨b2, 0, none⟩ C2
  have l4 := World.block_lt_of_cell? w ⟨bv, ov, none⟩ C4
  obtain ⟨s, hs⟩ : ∃ s, s = sameK E 2 i x := ⟨_, rfl⟩
  have Hs : Hid (sameK E 2 i x = s) := hs.symm
  have D1 := Lib.hid C1
  have D2 := Lib.hid C2
  have D4 := Lib.hid C4
  have HI := Lib.hid hI
  have Hm := Lib.hid hm
  rw [← hs]
  clear hI C1 C2 C4 hs hm
  go_enter Try.func65, Try.ntmps65
  go_wp2_with fail
  refine wp_region_same [] rfl (by kernel_rfl) (by kernel_rfl) (by kernel_rfl) (fun w' => Below w.heap.size w w') _
    [.pointer (some ⟨d, 0, none⟩), I i, .slice (some ⟨bv, ov, none⟩) 1 cv, .pointer (some ⟨bv, ov, none⟩), I x, .bool s, .bool s]
    (by simp only [putAll, List.setIfInBounds_toArray, List.set_cons_succ, List.set_cons_zero]; rfl) (Below.refl _ _).drew ?hop ?hQ
  case hop =>
    refine FixBL.toL (fun w' w'' hS hb => hS.trans (hb.mono hS.size)) _ _ ?_
    refine ⟨.inr ?_, .inr ?_, .inr ?_, .inr ?_, .inr ?_, .inr ?_, .inr ?_, trivial⟩
    · (with_reducible refine FixB.of ?_ ?_; rfl; intro w' hS; have s0 := (hS.cell (p := ⟨b1, 0, none⟩) l1).trans D1.out; have s1 := (hS.cell (p := ⟨b2, 0, none⟩) l2).trans D2.out; have s2 := (hS.cell (p := ⟨bv, ov, none⟩) l4).trans D4.out; clear hS; unfold Oper.wp; go_simp; first | done | exact Below.refl _ _)
    · (with_reducible refine FixB.of ?_ ?_; rfl; intro w' hS; have s0 := (hS.cell (p := ⟨b1, 0, none⟩) l1).trans D1.out; have s1 := (hS.cell (p := ⟨b2, 0, none⟩) l2).trans D2.out; have s2 := (hS.cell (p := ⟨bv, ov, none⟩) l4).trans D4.out; clear hS; unfold Oper.wp; go_simp; first | done | exact Below.refl _ _)
    · (with_reducible refine FixB.of ?_ ?_; rfl; intro w' hS; have s0 := (hS.cell (p := ⟨b1, 0, none⟩) l1).trans D1.out; have s1 := (hS.cell (p := ⟨b2, 0, none⟩) l2).trans D2.out; have s2 := (hS.cell (p := ⟨bv, ov, none⟩) l4).trans D4.out; clear hS; unfold Oper.wp; go_simp; first | done | exact Below.refl _ _)
    · (with_reducible refine FixB.of ?_ ?_; rfl; intro w' hS; have s0 := (hS.cell (p := ⟨b1, 0, none⟩) l1).trans D1.out; have s1 := (hS.cell (p := ⟨b2, 0, none⟩) l2).trans D2.out; have s2 := (hS.cell (p := ⟨bv, ov, none⟩) l4).trans D4.out; clear hS; unfold Oper.wp; go_simp; first | done | exact Below.refl _ _)
    · (with_reducible refine FixB.of ?_ ?_; rfl; intro w' hS; have s0 := (hS.cell (p := ⟨b1, 0, none⟩) l1).trans D1.out; have s1 := (hS.cell (p := ⟨b2, 0, none⟩) l2).trans D2.out; have s2 := (hS.cell (p := ⟨bv, ov, none⟩) l4).trans D4.out; clear hS; unfold Oper.wp; go_simp; first | done | exact Below.refl _ _)
    · (with_reducible refine FixB.of ?_ ?_; rfl; intro w' hS; have s3 := Lib.hid hS; unfold Oper.wp; clear hS; go_simp; refine ((Hs.out ▸ alike_any (kind := 2) _ (HI.out.below s3.out (Nat.le_refl _)) hE Hm.out hi hx)).mono ?_; rintro e w1 ⟨rfl, hb⟩; exact ⟨rfl, hb⟩)
    · (with_reducible refine FixB.of ?_ ?_; rfl; intro w' hS; have s0 := (hS.cell (p := ⟨b1, 0, none⟩) l1).trans D1.out; have s1 := (hS.cell (p := ⟨b2, 0, none⟩) l2).trans D2.out; have s2 := (hS.cell (p := ⟨bv, ov, none⟩) l4).trans D4.out; clear hS; unfold Oper.wp; go_simp; first | done | exact Below.refl _ _)
  case hQ =>
  intro wc hS _
  have HB2 := Lib.hid hS
  clear hS
  go_wp2
  go_ret
  exact ⟨rfl, HB2.out⟩

set_option maxHeartbeats 2000000 in
theorem ImplGW_any (A : Option Addr) (n c : Nat) (ms : List M) (f : M) (w : World) (hx : RdM w w.heap.size A ms) (hn : ms.length = n) (hA : A = none → n = 0 ∧ c = 0) (hb : n < 536870912) :
    Calls Try.prog 25 #[.slice A n c, .agg (mc f)] w (RetM (gwR ms f) (gwC ms f) w) := by
  obtain ⟨wb, hwb⟩ : ∃ wb, wb = (w.alloc (.cells (mc f) 39)).alloc (.cells (mc f) 39) := ⟨_, rfl⟩
  have hbb : Below w.heap.size w wb := by rw [hwb]; exact ((Below.refl _ _).alloc (Nat.le_refl _) _).alloc (by simp) _
  have h7 : RdM wb wb.heap.size (some ⟨w.heap.size + 1, 0, none⟩) [f] := by rw [hwb]; exact rd_one (Blk.six (Blk.new' _ _ _ (by simp)))
  have Hx := Lib.hid (Rd.more (Rd.below hx hbb) hbb.size)
  have Hn := Lib.hid hn
  have HA := Lib.hid hA
  have H7 := Lib.hid h7
  have Hbb := Lib.hid hbb
  have Hwb := Lib.hid hwb
  clear hx hn hA h7 hbb hwb
  by_cases hc : monC ms [f] = 0
  · obtain ⟨E, ps, hE, hin⟩ := monC_el hc
    have hfE := hin f (by simp)
    have hlen := hE.len
    obtain ⟨x, hxx⟩ : ∃ x, x = ix E f := ⟨_, rfl⟩
    have hxl : x < E.length := by rw [hxx]; exact ix_lt hfE
    have hgE : gwE ms f = gwL E (hP E x) E.length := by unfold gwE; rw [hE.r, ← hxx]
    have Hxx := Lib.hid hxx
    have HE := Lib.hid hE
    have Hc := Lib.hid hc
    have HgE := Lib.hid hgE
    clear hE hc hgE hin hxx hfE
    go_enter Try.func25, Try.ntmps25
    go_wp2_with fail
    rw [← Hwb.out]
    refine (monoidOf_any A (some ⟨w.heap.size + 1, 0, none⟩) n c 1 1 ms [f] wb Hx.out H7.out Hn.out rfl HA.out (fun h => (by cases h)) (by omega)).mono ?_
    rintro e w1 ⟨r, v, rfl, hb1, hr0, hs⟩
    obtain ⟨g0, rfl, hM, hv⟩ := hs ps HE.out.clo Hc.out
    rw [← HE.out.eq] at hM hv
    simp only [List.map_cons, List.map_nil] at hv
    rw [← Hxx.out] at hv
    rw [Hc.out]
    obtain ⟨Av, cv, hvv, hrv⟩ := hv.form
    subst hvv
    obtain ⟨bv, ov, e, hbv, c0⟩ := RdI.at_ hrv (k := 0) (by simp)
    subst e
    rw [Nat.add_zero] at c0
    simp only [List.length_singleton]
    obtain ⟨w2, hw2⟩ : ∃ w2, w2 = w1.alloc (.cells #[.slice (some ⟨bv, ov, none⟩) 1 cv] 56) := ⟨_, rfl⟩
    have hb2 : Below w1.heap.size w1 w2 := by rw [hw2]; exact (Below.refl _ _).alloc (Nat.le_refl _) _
    have C2 : w2.cell? ⟨w1.heap.size, 0, none⟩ = some (.slice (some ⟨bv, ov, none⟩) 1 cv) := by rw [hw2]; exact (Blk.new w1 _ _).cell 0
    have C4 : w2.cell? ⟨bv, ov, none⟩ = some (I x) := (hb2.cell (p := ⟨bv, ov, none⟩) hbv).trans c0
    have HM := Lib.hid (hM.below hb2 (Nat.le_refl _))
    have Hb2 := Lib.hid (hb1.trans (hb2.mono hb1.size))
    have Hw2 := Lib.hid hw2
    have D2 := Lib.hid C2
    have D4 := Lib.hid C4
    clear hM hs hr0 hv hrv hb1 c0 hw2 hb2 C2 C4
    go_wp2_with fail
    rw [← Hw2.out]
    refine (ideals_any w2 HM.out hlen HE.out.mnd).mono ?_
    rintro e w3 ⟨d, rfl, hI, hb3⟩
    obtain ⟨w4, hw4⟩ : ∃ w4, w4 = w3.alloc (.cells #[.pointer (some ⟨d, 0, none⟩)] 77) := ⟨_, rfl⟩
    have hb4 : Below w3.heap.size w3 w4 := by rw [hw4]; exact (Below.refl _ _).alloc (Nat.le_refl _) _
    have hb24 := hb3.trans (hb4.mono hb3.size)
    have C1 : w4.cell? ⟨w3.heap.size, 0, none⟩ = some (.pointer (some ⟨d, 0, none⟩)) := by rw [hw4]; exact (Blk.new w3 _ _).cell 0
    have E2 := (hb24.cell (p := ⟨w1.heap.size, 0, none⟩) (World.block_lt_of_cell? w2 _ D2.out)).trans D2.out
    have E4 := (hb24.cell (p := ⟨bv, ov, none⟩) (World.block_lt_of_cell? w2 _ D4.out)).trans D4.out
    have hI4 := hI.below hb4 (Nat.le_refl _)
    have hM4 := HM.out.below hb24 (Nat.le_refl _)
    have m1 := World.block_lt_of_cell? w4 _ C1
    have m2 := World.block_lt_of_cell? w4 _ E2
    have m4 := World.block_lt_of_cell? w4 _ E4
    have HP : Hid (PredC 59 #[.pointer (some ⟨w3.heap.size, 0, none⟩), .pointer (some ⟨w1.heap.size, 0, none⟩)] E.length (hP E x) w4) :=
      ⟨enters_of Try.func59 (by kernel_rfl) rfl, fun w' hb' k hk => gw1_any w' (hI4.below hb' (Nat.le_refl _)) hlen HE.out.mnd hk hxl ((hb'.cell m1).trans C1) ((hb'.cell m2).trans E2) ((hb'.cell m4).trans E4)⟩
    have HM4 := Lib.hid hM4
    have Hw4 := Lib.hid hw4
    have Hb4 := Lib.hid (Hb2.out.trans (hb24.mono Hb2.out.size))
    have hpos := HE.out.pos
    clear hI hb3 hb4 hb24 C1 E2 E4 hI4 hM4 m1 m2 m4 hw4
    go_wp2_with fail
    rw [← Hw4.out]
    refine (only_any _ _ _ w4 HM4.out hlen hpos HP.out).mono ?_
    rintro e w5 ⟨v, rfl, ho, hb5⟩
    have ho : OwM 39 w5 w4.heap.size v (gwE ms f) := by rw [HgE.out]; exact ho
    obtain ⟨K, hK⟩ : ∃ K, (gwE ms f).length = K := ⟨_, rfl⟩
    have hKb : K ≤ 300 := by rw [← hK, HgE.out]; exact Nat.le_trans (gwL_len _ _ _) hlen
    obtain ⟨A5, c5, hv5, hr5⟩ := ho.form
    rw [hK] at hv5
    subst hv5
    have Hr5 := Lib.hid hr5
    have Ho5 := Lib.hid ho
    have HK := Lib.hid hK
    have Hb5 := Lib.hid (Hbb.out.trans ((Hb4.out.trans (hb5.mono Hb4.out.size)).mono Hbb.out.size))
    have hz5 := hb5.size
    have HVV : Hid (∀ z ∈ gwE ms f, Valid z) := fun z hz => (HE.out.mnd.ok z (gwL_ok (Nat.le_refl _) z (by rw [← HgE.out]; exact hz))).1
    clear hb5 hr5 ho hK
    go_wp2_with fail
    refine (hasIdem_any A5 K c5 (gwE ms f) w5 Hr5.out HK.out (by omega) HVV.out).mono ?_
    rintro e w6 ⟨rfl, hb6⟩
    have Hb6 := Lib.hid (Hb5.out.trans (hb6.mono Hb5.out.size))
    have Ho6 := Lib.hid (Ho5.out.below hb6 (Nat.le_refl _))
    have hw4w : w.heap.size ≤ w4.heap.size := by have := Hbb.out.size; have := Hb4.out.size; omega
    clear hb6
    cases hi : (gwE ms f).any isIdem
    · have hC := gwC_no Hc.out hi
      have HR := Lib.hid (gwR_bad (ms := ms) (f := f) (by rw [hC]; decide))
      have HC := Lib.hid hC
      clear hC hi
      go_wp2_with fail
      go_ret2
      exact .mk _ (by rw [HC.out] <;> rfl) (by rw [HR.out]; exact OwM.nil_) Hb6.out
    · have hC := gwC_yes Hc.out hi
      have HR : Hid (gwR ms f = gwE ms f) := by show _ = _; unfold gwR; rw [if_pos hC]
      have HC := Lib.hid hC
      clear hC hi
      go_wp2_with fail
      go_ret2
      exact .mk _ (by rw [HC.out] <;> rfl) (by rw [HR.out]; exact Ho6.out.mono hw4w) Hb6.out
  · have hC := gwC_bad hc
    have hR := gwR_bad (ms := ms) (f := f) (by rw [hC]; exact hc)
    have hne : (monC ms [f] != 0) = true := by simpa using hc
    have HR := Lib.hid hR
    have HC := Lib.hid hC
    clear hR hC hc
    go_enter Try.func25, Try.ntmps25
    go_wp2_with fail
    rw [← Hwb.out]
    refine (monoidOf_any A (some ⟨w.heap.size + 1, 0, none⟩) n c 1 1 ms [f] wb Hx.out H7.out Hn.out rfl HA.out (fun h => (by cases h)) (by omega)).mono ?_
    rintro e w1 ⟨r, v, rfl, hb1, hr0, hs⟩
    obtain ⟨rfl, rfl⟩ := hr0 (by simpa using hne)
    have Hb2 := Lib.hid (Hbb.out.trans (hb1.mono Hbb.out.size))
    have Hb3 := Lib.hid (Hb2.out.alloc Hb2.out.size (.cells #[.slice none 0 0] 56))
    clear hb1 hr0 hs
    go_wp2_with fail
    go_ret2
    exact .mk _ (by rw [HC.out] <;> rfl) (by rw [HR.out]; exact OwM.nil_) Hb3.out
end Go.Proofs.Ytneonacdjmfaoaa
