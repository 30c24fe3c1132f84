/- Contract of the program's IsRegular; the lists are as the theorem states. -/
import Derived.Test.YtknknljkmkfmoaaI2
namespace Go.Proofs.Ytknknljkmkfmoaa
open Go.RowKit
set_option maxRecDepth 100000
set_option linter.unusedSimpArgs false
set_option linter.unusedVariables false

theorem sameK_comm (E : List M) (kind : Int) (i k : Nat) : sameK E kind i k = sameK E kind k i := by
  rw [Bool.eq_iff_iff]; exact ⟨sameK_symm kind, sameK_symm kind⟩

set_option maxHeartbeats 1000000 in
theorem irg1_any {n : Int} {B g d b1 b2 b3 bv ov cv x i : Nat} {E : List M} {us : List (List Int)} (w : World) (h : MonAt n B g E us w) (hI : IdeAt w d E) (hE : E.length ≤ 300) (hm : Mnd n E) (hi : i < E.length) (hx : x < E.length)
    (C1 : w.cell? ⟨b1, 0, none⟩ = some (.pointer (some ⟨d, 0, none⟩))) (C2 : w.cell? ⟨b2, 0, none⟩ = some (.slice (some ⟨bv, ov, none⟩) 1 cv)) (C3 : w.cell? ⟨b3, 0, none⟩ = some (.pointer (some ⟨g, 0, none⟩))) (C4 : w.cell? ⟨bv, ov, none⟩ = some (I x)) :
    Calls Try.prog 105 #[I i, .pointer (some ⟨b1, 0, none⟩), .pointer (some ⟨b2, 0, none⟩), .pointer (some ⟨b3, 0, none⟩)] w fun e w' => e = .returned (.bool (irgB E x i)) ∧ Below w.heap.size w w' := by
  obtain ⟨_, ev, wv, pl, vs, hM, hP, hO, _⟩ := h
  obtain ⟨gE, cE, rfl⟩ := hO.some_ (by omega)
  have C5 := hM.c0
  have hv := (hm.ok _ (gm_mem hi)).1
  obtain ⟨b', off', e, hgE, h6⟩ := RdM.at_ hO.rd (k := i) hi
  injection e with e
  injection e with e1 e2 _
  subst e1 e2
  rw [Nat.zero_add] at h6
  obtain ⟨z, hz⟩ : ∃ z, z = gm E i := ⟨_, rfl⟩
  rw [← hz] at h6 hv
  have l1 := World.block_lt_of_cell? w ⟨b1, 0, none⟩ C1
  have l2 := World.block_lt_of_cell? w ⟨b2, 0, none⟩ C2
  have l3 := World.block_lt_of_cell? w ⟨b3, 0, none⟩ C3
  have l4 := World.block_lt_of_cell? w ⟨bv, ov, none⟩ C4
  have l5 := World.block_lt_of_cell? w ⟨g, 0, none⟩ C5
  obtain ⟨s, hs⟩ : ∃ s, s = sameK E 3 x i := ⟨_, rfl⟩
  have Hs : Hid (sameK E 3 i x = s) := by show _ = _; rw [sameK_comm, hs]
  have hR : irgB E x i = (s && isIdem z) := by unfold irgB; first | rw [← hs, ← hz] | rw [sameK_comm, ← hs, ← hz]
  have HR := Lib.hid hR
  have D1 := Lib.hid C1
  have D2 := Lib.hid C2
  have D3 := Lib.hid C3
  have D4 := Lib.hid C4
  have D5 := Lib.hid C5
  have H6 := Lib.hid h6
  have HI := Lib.hid hI
  have iz : (i : Int) < (E.length : Int) := by omega
  clear hM hP hO hs hz hR hI C1 C2 C3 C4 C5 h6
  cases s
  · go_enter Try.func105, Try.ntmps105
    go_wp2_with fail
    refine wp_region_same [] rfl (by kernel_rfl) (by kernel_rfl) (by kernel_rfl) (fun w' => Below w.heap.size w w') _
      [.pointer (some ⟨d, 0, none⟩), I i, .slice (some ⟨bv, ov, none⟩) 1 cv, .pointer (some ⟨bv, ov, none⟩), I x, .bool false, .bool false, undef, undef, undef, undef, undef, undef, undef, undef, .bool false, .bool false]
      (by simp only [putAll, List.setIfInBounds_toArray, List.set_cons_succ, List.set_cons_zero]; rfl) (Below.refl _ _).drew ?hop ?hQ
    case hop =>
      refine FixBL.toL (fun w' w'' hS hb => hS.trans (hb.mono hS.size)) _ _ ?_
      refine ⟨.inr ?_, .inr ?_, .inr ?_, .inr ?_, .inr ?_, .inr ?_, .inr ?_, .inr ?_, .inr ?_, .inr ?_, .inr ?_, .inr ?_, .inr ?_, .inr ?_, .inr ?_, .inr ?_, .inr ?_, trivial⟩
      · (with_reducible refine FixB.of ?_ ?_; rfl; intro w' hS; have s0 := (hS.cell (p := ⟨b1, 0, none⟩) l1).trans D1.out; have s1 := (hS.cell (p := ⟨b2, 0, none⟩) l2).trans D2.out; have s2 := (hS.cell (p := ⟨bv, ov, none⟩) l4).trans D4.out; clear hS; unfold Oper.wp; go_simp; first | done | exact Below.refl _ _)
      · (with_reducible refine FixB.of ?_ ?_; rfl; intro w' hS; have s0 := (hS.cell (p := ⟨b1, 0, none⟩) l1).trans D1.out; have s1 := (hS.cell (p := ⟨b2, 0, none⟩) l2).trans D2.out; have s2 := (hS.cell (p := ⟨bv, ov, none⟩) l4).trans D4.out; clear hS; unfold Oper.wp; go_simp; first | done | exact Below.refl _ _)
      · (with_reducible refine FixB.of ?_ ?_; rfl; intro w' hS; have s0 := (hS.cell (p := ⟨b1, 0, none⟩) l1).trans D1.out; have s1 := (hS.cell (p := ⟨b2, 0, none⟩) l2).trans D2.out; have s2 := (hS.cell (p := ⟨bv, ov, none⟩) l4).trans D4.out; clear hS; unfold Oper.wp; go_simp; first | done | exact Below.refl _ _)
      · (with_reducible refine FixB.of ?_ ?_; rfl; intro w' hS; have s0 := (hS.cell (p := ⟨b1, 0, none⟩) l1).trans D1.out; have s1 := (hS.cell (p := ⟨b2, 0, none⟩) l2).trans D2.out; have s2 := (hS.cell (p := ⟨bv, ov, none⟩) l4).trans D4.out; clear hS; unfold Oper.wp; go_simp; first | done | exact Below.refl _ _)
      · (with_reducible refine FixB.of ?_ ?_; rfl; intro w' hS; have s0 := (hS.cell (p := ⟨b1, 0, none⟩) l1).trans D1.out; have s1 := (hS.cell (p := ⟨b2, 0, none⟩) l2).trans D2.out; have s2 := (hS.cell (p := ⟨bv, ov, none⟩) l4).trans D4.out; clear hS; unfold Oper.wp; go_simp; first | done | exact Below.refl _ _)
      · (with_reducible refine FixB.of ?_ ?_; rfl; intro w' hS; have s3 := Lib.hid hS; unfold Oper.wp; clear hS; go_simp; refine ((Hs.out ▸ alike_any (kind := 3) _ (HI.out.below s3.out (Nat.le_refl _)) hE hm hi hx)).mono ?_; rintro e w1 ⟨rfl, hb⟩; exact ⟨rfl, hb⟩)
      · (with_reducible refine FixB.of ?_ ?_; rfl; intro w' hS; have s0 := (hS.cell (p := ⟨b1, 0, none⟩) l1).trans D1.out; have s1 := (hS.cell (p := ⟨b2, 0, none⟩) l2).trans D2.out; have s2 := (hS.cell (p := ⟨bv, ov, none⟩) l4).trans D4.out; clear hS; unfold Oper.wp; go_simp; first | done | exact Below.refl _ _)
      · exact FixB.off (by first | rfl | kernel_rfl | (simp [Region.wanted, yielded]; done)) rfl
      · exact FixB.off (by first | rfl | kernel_rfl | (simp [Region.wanted, yielded]; done)) rfl
      · exact FixB.off (by first | rfl | kernel_rfl | (simp [Region.wanted, yielded]; done)) rfl
      · exact FixB.off (by first | rfl | kernel_rfl | (simp [Region.wanted, yielded]; done)) rfl
      · exact FixB.off (by first | rfl | kernel_rfl | (simp [Region.wanted, yielded]; done)) rfl
      · exact FixB.off (by first | rfl | kernel_rfl | (simp [Region.wanted, yielded]; done)) rfl
      · exact FixB.off (by first | rfl | kernel_rfl | (simp [Region.wanted, yielded]; done)) rfl
      · exact FixB.off (by first | rfl | kernel_rfl | (simp [Region.wanted, yielded]; done)) rfl
      · (with_reducible refine FixB.of ?_ ?_; rfl; intro w' hS; have s0 := (hS.cell (p := ⟨b1, 0, none⟩) l1).trans D1.out; have s1 := (hS.cell (p := ⟨b2, 0, none⟩) l2).trans D2.out; have s2 := (hS.cell (p := ⟨bv, ov, none⟩) l4).trans D4.out; clear hS; unfold Oper.wp; go_simp; first | done | exact Below.refl _ _)
      · (with_reducible refine FixB.of ?_ ?_; rfl; intro w' hS; have s0 := (hS.cell (p := ⟨b1, 0, none⟩) l1).trans D1.out; have s1 := (hS.cell (p := ⟨b2, 0, none⟩) l2).trans D2.out; have s2 := (hS.cell (p := ⟨bv, ov, none⟩) l4).trans D4.out; clear hS; unfold Oper.wp; go_simp; first | done | exact Below.refl _ _)
    case hQ =>
    intro wc hS _
    have HB2 := Lib.hid hS
    clear hS
    go_wp2
    go_ret
    exact ⟨by rw [HR.out] <;> rfl, HB2.out⟩
  · go_enter Try.func105, Try.ntmps105
    go_wp2_with fail
    refine wp_region_same [] rfl (by kernel_rfl) (by kernel_rfl) (by kernel_rfl) (fun w' => Below w.heap.size w w') _
      [.pointer (some ⟨d, 0, none⟩), I i, .slice (some ⟨bv, ov, none⟩) 1 cv, .pointer (some ⟨bv, ov, none⟩), I x, .bool true, .bool true, .pointer (some ⟨g, 0, none⟩), .pointer (some ⟨g, 0, none⟩), .pointer (some ⟨g, 0, none⟩), .slice (some ⟨gE, 0, none⟩) E.length cE, I i, .pointer (some ⟨gE, i * 6, none⟩), .agg (mc z), .bool (isIdem z), .bool (isIdem z), .bool (isIdem z)]
      (by simp only [putAll, List.setIfInBounds_toArray, List.set_cons_succ, List.set_cons_zero]; rfl) (Below.refl _ _).drew ?hop ?hQ
    case hop =>
      refine FixBL.toL (fun w' w'' hS hb => hS.trans (hb.mono hS.size)) _ _ ?_
      refine ⟨.inr ?_, .inr ?_, .inr ?_, .inr ?_, .inr ?_, .inr ?_, .inr ?_, .inr ?_, .inr ?_, .inr ?_, .inr ?_, .inr ?_, .inr ?_, .inr ?_, .inr ?_, .inr ?_, .inr ?_, trivial⟩
      · (with_reducible refine FixB.of ?_ ?_; rfl; intro w' hS; have s0 := (hS.cell (p := ⟨b1, 0, none⟩) l1).trans D1.out; have s1 := (hS.cell (p := ⟨b2, 0, none⟩) l2).trans D2.out; have s2 := (hS.cell (p := ⟨bv, ov, none⟩) l4).trans D4.out; have s3 := (hS.cell (p := ⟨b3, 0, none⟩) l3).trans D3.out; have s4 := (hS.cell (p := ⟨g, 0, none⟩) l5).trans D5.out; have s5 := H6.out.below hS hgE; clear hS; unfold Oper.wp; go_simp; first | done | exact Below.refl _ _)
      · (with_reducible refine FixB.of ?_ ?_; rfl; intro w' hS; have s0 := (hS.cell (p := ⟨b1, 0, none⟩) l1).trans D1.out; have s1 := (hS.cell (p := ⟨b2, 0, none⟩) l2).trans D2.out; have s2 := (hS.cell (p := ⟨bv, ov, none⟩) l4).trans D4.out; have s3 := (hS.cell (p := ⟨b3, 0, none⟩) l3).trans D3.out; have s4 := (hS.cell (p := ⟨g, 0, none⟩) l5).trans D5.out; have s5 := H6.out.below hS hgE; clear hS; unfold Oper.wp; go_simp; first | done | exact Below.refl _ _)
      · (with_reducible refine FixB.of ?_ ?_; rfl; intro w' hS; have s0 := (hS.cell (p := ⟨b1, 0, none⟩) l1).trans D1.out; have s1 := (hS.cell (p := ⟨b2, 0, none⟩) l2).trans D2.out; have s2 := (hS.cell (p := ⟨bv, ov, none⟩) l4).trans D4.out; have s3 := (hS.cell (p := ⟨b3, 0, none⟩) l3).trans D3.out; have s4 := (hS.cell (p := ⟨g, 0, none⟩) l5).trans D5.out; have s5 := H6.out.below hS hgE; clear hS; unfold Oper.wp; go_simp; first | done | exact Below.refl _ _)
      · (with_reducible refine FixB.of ?_ ?_; rfl; intro w' hS; have s0 := (hS.cell (p := ⟨b1, 0, none⟩) l1).trans D1.out; have s1 := (hS.cell (p := ⟨b2, 0, none⟩) l2).trans D2.out; have s2 := (hS.cell (p := ⟨bv, ov, none⟩) l4).trans D4.out; have s3 := (hS.cell (p := ⟨b3, 0, none⟩) l3).trans D3.out; have s4 := (hS.cell (p := ⟨g, 0, none⟩) l5).trans D5.out; have s5 := H6.out.below hS hgE; clear hS; unfold Oper.wp; go_simp; first | done | exact Below.refl _ _)
      · (with_reducible refine FixB.of ?_ ?_; rfl; intro w' hS; have s0 := (hS.cell (p := ⟨b1, 0, none⟩) l1).trans D1.out; have s1 := (hS.cell (p := ⟨b2, 0, none⟩) l2).trans D2.out; have s2 := (hS.cell (p := ⟨bv, ov, none⟩) l4).trans D4.out; have s3 := (hS.cell (p := ⟨b3, 0, none⟩) l3).trans D3.out; have s4 := (hS.cell (p := ⟨g, 0, none⟩) l5).trans D5.out; have s5 := H6.out.below hS hgE; clear hS; unfold Oper.wp; go_simp; first | done | exact Below.refl _ _)
      · (with_reducible refine FixB.of ?_ ?_; rfl; intro w' hS; have s3 := Lib.hid hS; unfold Oper.wp; clear hS; go_simp; refine ((Hs.out ▸ alike_any (kind := 3) _ (HI.out.below s3.out (Nat.le_refl _)) hE hm hi hx)).mono ?_; rintro e w1 ⟨rfl, hb⟩; exact ⟨rfl, hb⟩)
      · (with_reducible refine FixB.of ?_ ?_; rfl; intro w' hS; have s0 := (hS.cell (p := ⟨b1, 0, none⟩) l1).trans D1.out; have s1 := (hS.cell (p := ⟨b2, 0, none⟩) l2).trans D2.out; have s2 := (hS.cell (p := ⟨bv, ov, none⟩) l4).trans D4.out; have s3 := (hS.cell (p := ⟨b3, 0, none⟩) l3).trans D3.out; have s4 := (hS.cell (p := ⟨g, 0, none⟩) l5).trans D5.out; have s5 := H6.out.below hS hgE; clear hS; unfold Oper.wp; go_simp; first | done | exact Below.refl _ _)
      · (refine FixB.on (by first | rfl | kernel_rfl | (simp [Region.wanted, yielded]; done)) ?_; intro w' hS; have s0 := (hS.cell (p := ⟨b1, 0, none⟩) l1).trans D1.out; have s1 := (hS.cell (p := ⟨b2, 0, none⟩) l2).trans D2.out; have s2 := (hS.cell (p := ⟨bv, ov, none⟩) l4).trans D4.out; have s3 := (hS.cell (p := ⟨b3, 0, none⟩) l3).trans D3.out; have s4 := (hS.cell (p := ⟨g, 0, none⟩) l5).trans D5.out; have s5 := H6.out.below hS hgE; clear hS; unfold Oper.wp; go_simp; first | done | exact Below.refl _ _)
      · (refine FixB.on (by first | rfl | kernel_rfl | (simp [Region.wanted, yielded]; done)) ?_; intro w' hS; have s0 := (hS.cell (p := ⟨b1, 0, none⟩) l1).trans D1.out; have s1 := (hS.cell (p := ⟨b2, 0, none⟩) l2).trans D2.out; have s2 := (hS.cell (p := ⟨bv, ov, none⟩) l4).trans D4.out; have s3 := (hS.cell (p := ⟨b3, 0, none⟩) l3).trans D3.out; have s4 := (hS.cell (p := ⟨g, 0, none⟩) l5).trans D5.out; have s5 := H6.out.below hS hgE; clear hS; unfold Oper.wp; go_simp; first | done | exact Below.refl _ _)
      · (refine FixB.on (by first | rfl | kernel_rfl | (simp [Region.wanted, yielded]; done)) ?_; intro w' hS; have s0 := (hS.cell (p := ⟨b1, 0, none⟩) l1).trans D1.out; have s1 := (hS.cell (p := ⟨b2, 0, none⟩) l2).trans D2.out; have s2 := (hS.cell (p := ⟨bv, ov, none⟩) l4).trans D4.out; have s3 := (hS.cell (p := ⟨b3, 0, none⟩) l3).trans D3.out; have s4 := (hS.cell (p := ⟨g, 0, none⟩) l5).trans D5.out; have s5 := H6.out.below hS hgE; clear hS; unfold Oper.wp; go_simp; first | done | exact Below.refl _ _)
      · (refine FixB.on (by first | rfl | kernel_rfl | (simp [Region.wanted, yielded]; done)) ?_; intro w' hS; have s0 := (hS.cell (p := ⟨b1, 0, none⟩) l1).trans D1.out; have s1 := (hS.cell (p := ⟨b2, 0, none⟩) l2).trans D2.out; have s2 := (hS.cell (p := ⟨bv, ov, none⟩) l4).trans D4.out; have s3 := (hS.cell (p := ⟨b3, 0, none⟩) l3).trans D3.out; have s4 := (hS.cell (p := ⟨g, 0, none⟩) l5).trans D5.out; have s5 := H6.out.below hS hgE; clear hS; unfold Oper.wp; go_simp; first | done | exact Below.refl _ _)
      · (refine FixB.on (by first | rfl | kernel_rfl | (simp [Region.wanted, yielded]; done)) ?_; intro w' hS; have s0 := (hS.cell (p := ⟨b1, 0, none⟩) l1).trans D1.out; have s1 := (hS.cell (p := ⟨b2, 0, none⟩) l2).trans D2.out; have s2 := (hS.cell (p := ⟨bv, ov, none⟩) l4).trans D4.out; have s3 := (hS.cell (p := ⟨b3, 0, none⟩) l3).trans D3.out; have s4 := (hS.cell (p := ⟨g, 0, none⟩) l5).trans D5.out; have s5 := H6.out.below hS hgE; clear hS; unfold Oper.wp; go_simp; first | done | exact Below.refl _ _)
      · (refine FixB.on (by first | rfl | kernel_rfl | (simp [Region.wanted, yielded]; done)) ?_; intro w' hS; have s0 := (hS.cell (p := ⟨b1, 0, none⟩) l1).trans D1.out; have s1 := (hS.cell (p := ⟨b2, 0, none⟩) l2).trans D2.out; have s2 := (hS.cell (p := ⟨bv, ov, none⟩) l4).trans D4.out; have s3 := (hS.cell (p := ⟨b3, 0, none⟩) l3).trans D3.out; have s4 := (hS.cell (p := ⟨g, 0, none⟩) l5).trans D5.out; have s5 := H6.out.below hS hgE; clear hS; unfold Oper.wp; go_simp; first | done | exact Below.refl _ _)
      · (refine FixB.on (by first | rfl | kernel_rfl | (simp [Region.wanted, yielded]; done)) ?_; intro w' hS; have s0 := (hS.cell (p := ⟨b1, 0, none⟩) l1).trans D1.out; have s1 := (hS.cell (p := ⟨b2, 0, none⟩) l2).trans D2.out; have s2 := (hS.cell (p := ⟨bv, ov, none⟩) l4).trans D4.out; have s3 := (hS.cell (p := ⟨b3, 0, none⟩) l3).trans D3.out; have s4 := (hS.cell (p := ⟨g, 0, none⟩) l5).trans D5.out; have s5 := H6.out.below hS hgE; clear hS; unfold Oper.wp; go_simp; first | done | exact Below.refl _ _)
      · (refine FixB.on (by first | rfl | kernel_rfl | (simp [Region.wanted, yielded]; done)) ?_; intro w' hS; have s3 := Lib.hid hS; unfold Oper.wp; clear hS; go_simp; refine (isIdem_any z _ hv).mono ?_; rintro e w1 ⟨rfl, hb⟩; exact ⟨rfl, hb⟩)
      · (with_reducible refine FixB.of ?_ ?_; rfl; intro w' hS; have s0 := (hS.cell (p := ⟨b1, 0, none⟩) l1).trans D1.out; have s1 := (hS.cell (p := ⟨b2, 0, none⟩) l2).trans D2.out; have s2 := (hS.cell (p := ⟨bv, ov, none⟩) l4).trans D4.out; have s3 := (hS.cell (p := ⟨b3, 0, none⟩) l3).trans D3.out; have s4 := (hS.cell (p := ⟨g, 0, none⟩) l5).trans D5.out; have s5 := H6.out.below hS hgE; clear hS; unfold Oper.wp; go_simp; first | done | exact Below.refl _ _)
      · (with_reducible refine FixB.of ?_ ?_; rfl; intro w' hS; have s0 := (hS.cell (p := ⟨b1, 0, none⟩) l1).trans D1.out; have s1 := (hS.cell (p := ⟨b2, 0, none⟩) l2).trans D2.out; have s2 := (hS.cell (p := ⟨bv, ov, none⟩) l4).trans D4.out; have s3 := (hS.cell (p := ⟨b3, 0, none⟩) l3).trans D3.out; have s4 := (hS.cell (p := ⟨g, 0, none⟩) l5).trans D5.out; have s5 := H6.out.below hS hgE; clear hS; unfold Oper.wp; go_simp; first | done | exact Below.refl _ _)
    case hQ =>
    intro wc hS _
    have HB2 := Lib.hid hS
    clear hS
    go_wp2
    go_ret
    exact ⟨by rw [HR.out] <;> rfl, HB2.out⟩

set_option maxHeartbeats 1000000 in
theorem ImplIsRegular_any (A : Option Addr) (n c : Nat) (ms : List M) (f : M) (w : World) (hx : RdM w w.heap.size A ms) (hn : ms.length = n) (hA : A = none → n = 0 ∧ c = 0) (hb : n < 536870912) :
    Calls Try.prog 60 #[.slice A n c, .agg (mc f)] w fun e w' => e = .returned (.tuple #[.bool (irgR ms f), I (monC ms [f])]) ∧ Below w.heap.size w w' := by
  obtain ⟨wb, hwb⟩ : ∃ wb, wb = (w.alloc (.cells (mc f) 31)).alloc (.cells (mc f) 31) := ⟨_, rfl⟩
  have hbb : Below w.heap.size w wb := by rw [hwb]; exact ((Below.refl _ _).alloc (Nat.le_refl _) _).alloc (by simp) _
  have h7 : RdM wb wb.heap.size (some ⟨w.heap.size + 1, 0, none⟩) [f] := by rw [hwb]; exact rd_one (Blk.six (Blk.new' _ _ _ (by simp)))
  have Hx := Lib.hid (Rd.more (Rd.below hx hbb) hbb.size)
  have Hn := Lib.hid hn
  have HA := Lib.hid hA
  have H7 := Lib.hid h7
  have Hbb := Lib.hid hbb
  have Hwb := Lib.hid hwb
  clear hx hn hA h7 hbb hwb
  by_cases hc : monC ms [f] = 0
  · obtain ⟨E, ps, hE, hin⟩ := monC_el hc
    have hfE := hin f (by simp)
    have hR : irgR ms f = (List.range E.length).any (irgB E (ix E f)) := by unfold irgR; rw [decide_eq_true hc, Bool.true_and, hE.r]
    have hlen := hE.len
    obtain ⟨x, hxx⟩ : ∃ x, x = ix E f := ⟨_, rfl⟩
    have hxl : x < E.length := by rw [hxx]; exact ix_lt hfE
    rw [← hxx] at hR
    have Hxx := Lib.hid hxx
    have HE := Lib.hid hE
    have Hc := Lib.hid hc
    have HR := Lib.hid hR
    clear hE hc hR hin hxx hfE
    go_enter Try.func60, Try.ntmps60
    go_wp2_with fail
    rw [← Hwb.out]
    refine (monoidOf_any A (some ⟨w.heap.size + 1, 0, none⟩) n c 1 1 ms [f] wb Hx.out H7.out Hn.out rfl HA.out (fun h => (by cases h)) (by omega)).mono ?_
    rintro e w1 ⟨r, v, rfl, hb1, hr0, hs⟩
    obtain ⟨g0, rfl, hM, hv⟩ := hs ps HE.out.clo Hc.out
    rw [← HE.out.eq] at hM hv
    simp only [List.map_cons, List.map_nil] at hv
    rw [← Hxx.out] at hv
    rw [Hc.out]
    obtain ⟨Av, cv, hvv, hrv⟩ := hv.form
    subst hvv
    obtain ⟨bv, ov, e, hbv, c0⟩ := RdI.at_ hrv (k := 0) (by simp)
    subst e
    rw [Nat.add_zero] at c0
    simp only [List.length_singleton]
    obtain ⟨w2, hw2⟩ : ∃ w2, w2 = (w1.alloc (.cells #[.pointer (some ⟨g0, 0, none⟩)] 63)).alloc (.cells #[.slice (some ⟨bv, ov, none⟩) 1 cv] 64) := ⟨_, rfl⟩
    have hb2 : Below w1.heap.size w1 w2 := by rw [hw2]; exact ((Below.refl _ _).alloc (Nat.le_refl _) _).alloc (by simp) _
    have C3 : w2.cell? ⟨w1.heap.size, 0, none⟩ = some (.pointer (some ⟨g0, 0, none⟩)) := by rw [hw2]; exact (Blk.alloc (Blk.new w1 _ _) _).cell 0
    have C2 : w2.cell? ⟨w1.heap.size + 1, 0, none⟩ = some (.slice (some ⟨bv, ov, none⟩) 1 cv) := by rw [hw2]; exact (Blk.new' _ _ _ (by simp)).cell 0
    have C4 : w2.cell? ⟨bv, ov, none⟩ = some (I x) := (hb2.cell (p := ⟨bv, ov, none⟩) hbv).trans c0
    have HM := Lib.hid (hM.below hb2 (Nat.le_refl _))
    have Hb2 := Lib.hid (hb1.trans (hb2.mono hb1.size))
    have Hw2 := Lib.hid hw2
    have D2 := Lib.hid C2
    have D4 := Lib.hid C4
    have D3 := Lib.hid C3
    clear hM hs hr0 hv hrv hb1 c0 hw2 hb2 C2 C4
    go_wp2_with fail
    rw [← Hw2.out]
    refine (ideals_any w2 HM.out hlen HE.out.mnd).mono ?_
    rintro e w3 ⟨d, rfl, hI, hb3⟩
    obtain ⟨w4, hw4⟩ : ∃ w4, w4 = w3.alloc (.cells #[.pointer (some ⟨d, 0, none⟩)] 95) := ⟨_, rfl⟩
    have hb4 : Below w3.heap.size w3 w4 := by rw [hw4]; exact (Below.refl _ _).alloc (Nat.le_refl _) _
    have hb24 := hb3.trans (hb4.mono hb3.size)
    have C1 : w4.cell? ⟨w3.heap.size, 0, none⟩ = some (.pointer (some ⟨d, 0, none⟩)) := by rw [hw4]; exact (Blk.new w3 _ _).cell 0
    have E2 := (hb24.cell (p := ⟨w1.heap.size + 1, 0, none⟩) (World.block_lt_of_cell? w2 _ D2.out)).trans D2.out
    have E3 := (hb24.cell (p := ⟨w1.heap.size, 0, none⟩) (World.block_lt_of_cell? w2 _ D3.out)).trans D3.out
    have E4 := (hb24.cell (p := ⟨bv, ov, none⟩) (World.block_lt_of_cell? w2 _ D4.out)).trans D4.out
    have hI4 := hI.below hb4 (Nat.le_refl _)
    have hM4 := HM.out.below hb24 (Nat.le_refl _)
    have m1 := World.block_lt_of_cell? w4 _ C1
    have m2 := World.block_lt_of_cell? w4 _ E2
    have m3 := World.block_lt_of_cell? w4 _ E3
    have m4 := World.block_lt_of_cell? w4 _ E4
    have HP : Hid (PredC 105 #[.pointer (some ⟨w3.heap.size, 0, none⟩), .pointer (some ⟨w1.heap.size + 1, 0, none⟩), .pointer (some ⟨w1.heap.size, 0, none⟩)] E.length (irgB E x) w4) :=
      ⟨enters_of Try.func105 (by kernel_rfl) rfl, fun w' hb' k hk => irg1_any w' (hM4.below hb' (Nat.le_refl _)) (hI4.below hb' (Nat.le_refl _)) hlen HE.out.mnd hk hxl ((hb'.cell m1).trans C1) ((hb'.cell m2).trans E2) ((hb'.cell m3).trans E3) ((hb'.cell m4).trans E4)⟩
    have HM4 := Lib.hid hM4
    have Hw4 := Lib.hid hw4
    have Hb4 := Lib.hid (Hb2.out.trans (hb24.mono Hb2.out.size))
    have s3 := (hb3.cell (p := ⟨w1.heap.size, 0, none⟩) (World.block_lt_of_cell? w2 _ D3.out)).trans D3.out
    have hpos := HE.out.pos
    have l3 := World.block_lt_of_cell? w3 _ s3
    clear hI hb3 hb4 hb24 C1 E2 E3 E4 hI4 hM4 m1 m2 m3 m4 hw4 C3
    go_wp2_with fail
    rw [← Hw4.out]
    refine (any_any _ _ _ w4 HM4.out hlen hpos HP.out).mono ?_
    rintro e w5 ⟨rfl, hb5⟩
    have Hbe := Lib.hid (Hbb.out.trans ((Hb4.out.trans (hb5.mono Hb4.out.size)).mono Hbb.out.size))
    clear hb5 s3
    go_wp2
    go_ret2
    exact ⟨by rw [HR.out, Hc.out] <;> rfl, Hbe.out⟩
  · have hR : irgR ms f = false := by unfold irgR; rw [decide_eq_false hc]; rfl
    have HR := Lib.hid hR
    have hne : (monC ms [f] != 0) = true := by simpa using hc
    clear hR hc
    go_enter Try.func60, Try.ntmps60
    go_wp2_with fail
    rw [← Hwb.out]
    refine (monoidOf_any A (some ⟨w.heap.size + 1, 0, none⟩) n c 1 1 ms [f] wb Hx.out H7.out Hn.out rfl HA.out (fun h => (by cases h)) (by omega)).mono ?_
    rintro e w1 ⟨r, v, rfl, hb1, hr0, hs⟩
    obtain ⟨rfl, rfl⟩ := hr0 (by simpa using hne)
    have Hb2 := Lib.hid (Hbb.out.trans (hb1.mono Hbb.out.size))
    have Hb3 := Lib.hid ((Hb2.out.alloc Hb2.out.size (.cells #[.pointer none] 63)).alloc (by have := Hb2.out.size; simp; omega) (.cells #[.slice none 0 0] 64))
    clear hb1 hr0 hs
    go_wp2
    go_ret2
    exact ⟨by rw [HR.out] <;> rfl, Hb3.out⟩
end Go.Proofs.Ytknknljkmkfmoaa
