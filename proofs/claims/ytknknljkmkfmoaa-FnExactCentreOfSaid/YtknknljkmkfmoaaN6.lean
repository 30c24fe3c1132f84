/- The contracts of place and product of a monoid; the monoid stands as the theorems say. -/
import Derived.Test.YtknknljkmkfmoaaN4
import Derived.Test.YtknknljkmkfmoaaK3
namespace Go.Proofs.Ytknknljkmkfmoaa
open Go.RowKit
set_option maxRecDepth 100000

section
variable {n : Int} {B g : Nat} {E : List M} {us : List (List Int)} {w w' : World}
theorem MonAt.below {m : Nat} (h : MonAt n B g E us w) (hb : Below m w w') (hm : w.heap.size ≤ m) : MonAt n B g E us w' := by
  obtain ⟨ge, ev, wv, pl, vs, h1, h2, h3, h4, h5, h6, h7⟩ := h
  exact ⟨ge, ev, wv, pl, vs, h1.below hb (by have := h1.lt; omega), h2, h3.below hb hm, h4.below hb hm, h5, h6, fun j hj => (h7 j hj).below hb hm⟩
theorem MonAt.lt (h : MonAt n B g E us w) : g < w.heap.size := by obtain ⟨_, ev, wv, pl, vs, h1, _⟩ := h; exact h1.lt
theorem plOf_bd (E : List M) (f : M) : 0 ≤ plOf E f ∧ plOf E f ≤ E.length := by
  unfold plOf
  split
  · rename_i h; have := ix_lt h; omega
  · omega
end

theorem place_any {n : Int} {B g : Nat} {E : List M} {us : List (List Int)} (f : M) (w : World) (h : MonAt n B g E us w) (hE : E.length ≤ 300) (hf : Valid f) (hp : f.p = n) :
    Calls Try.prog 136 #[.pointer (some ⟨g, 0, none⟩), .agg (mc f)] w fun e w' => e = .returned (I (plOf E f - 1)) ∧ Below w.heap.size w w' := by
  obtain ⟨_, ev, wv, pl, vs, hM, hP, _⟩ := h
  have hpl := hP f hf hp
  have nb0 := (num_bd hf).1
  have nb1 := (num_bd hf).2
  have b0 := plOf_bd E f
  obtain ⟨x, hx⟩ : ∃ x, x = plOf E f := ⟨_, rfl⟩
  rw [← hx] at hpl b0 ⊢
  have x0 := b0.1
  have x1 := b0.2
  have hw1 : IntKind.i64.wrap (x - 1) = x - 1 := IntWalk.i64_in _ ⟨by omega, by omega⟩
  have HM := Lib.hid hM
  have hgl := hM.lt
  have Hpl := Lib.hid hpl
  clear hM hP hpl hx b0
  go_enter Try.func136, Try.ntmps136
  go_wp2_with fail
  obtain ⟨wb, hwb⟩ : ∃ wb, wb = w.alloc (.cells (mc f) 31) := ⟨_, rfl⟩
  have hszb : wb.heap.size = w.heap.size + 1 := by rw [hwb]; simp
  have hbb : Below w.heap.size w wb := by rw [hwb]; exact (Below.refl _ _).alloc (Nat.le_refl _) _
  have H6 : Hid (Six wb w.heap.size f) := by show Six _ _ _; rw [hwb]; exact Blk.six (Blk.new w _ _)
  have HM3 := Lib.hid (HM.out.below hbb HM.out.lt)
  have hgM := HM3.out.lt
  have H6l := H6.out.lt
  have Hbb := Lib.hid hbb
  rw [← hwb]
  clear hwb hbb HM
  refine wp_region_same [] rfl (by kernel_rfl) (by kernel_rfl) (by kernel_rfl) (fun w' => Below wb.heap.size wb w') _
    [.pointer (some ⟨g, 0, none⟩), .agg (mc f), I (num f), .pointer (some ⟨g, 0, none⟩), .pointer (some ⟨g, 2, none⟩), .pointer (some ⟨g, 2 + (num f).toNat, none⟩), I x, I (x - 1), I (x - 1)]
    (by simp only [putAll, List.setIfInBounds_toArray, List.set_cons_succ, List.set_cons_zero]; rfl) (Below.refl _ _).drew ?hop ?hQ
  case hop =>
    refine FixBL.toL (fun w' w'' hS hb => hS.trans (hb.mono hS.size)) _ _ ?_
    refine ⟨.inr ?_, .inr ?_, .inr ?_, .inr ?_, .inr ?_, .inr ?_, .inr ?_, .inr ?_, .inr ?_, trivial⟩
    · (with_reducible refine FixB.of ?_ ?_; rfl; intro w' hS; have s0 := H6.out.below hS H6l; have s1 := (HM3.out.below hS hgM).cp (j := (num f).toNat) (by omega); rw [Hpl.out] at s1; clear hS; unfold Oper.wp; go_simp; first | done | exact Below.refl _ _)
    · (with_reducible refine FixB.of ?_ ?_; rfl; intro w' hS; have s0 := H6.out.below hS H6l; have s1 := (HM3.out.below hS hgM).cp (j := (num f).toNat) (by omega); rw [Hpl.out] at s1; clear hS; unfold Oper.wp; go_simp; first | done | exact Below.refl _ _)
    · (with_reducible refine FixB.of ?_ ?_; rfl; intro w' hS; have s3 := Lib.hid hS; unfold Oper.wp; clear hS; go_simp; refine (number_any f _ hf).mono ?_; rintro e w1 ⟨rfl, hb⟩; exact ⟨rfl, hb⟩)
    · (with_reducible refine FixB.of ?_ ?_; rfl; intro w' hS; have s0 := H6.out.below hS H6l; have s1 := (HM3.out.below hS hgM).cp (j := (num f).toNat) (by omega); rw [Hpl.out] at s1; clear hS; unfold Oper.wp; go_simp; first | done | exact Below.refl _ _)
    · (with_reducible refine FixB.of ?_ ?_; rfl; intro w' hS; have s0 := H6.out.below hS H6l; have s1 := (HM3.out.below hS hgM).cp (j := (num f).toNat) (by omega); rw [Hpl.out] at s1; clear hS; unfold Oper.wp; go_simp; first | done | exact Below.refl _ _)
    · (with_reducible refine FixB.of ?_ ?_; rfl; intro w' hS; have s0 := H6.out.below hS H6l; have s1 := (HM3.out.below hS hgM).cp (j := (num f).toNat) (by omega); rw [Hpl.out] at s1; clear hS; unfold Oper.wp; go_simp; first | done | exact Below.refl _ _)
    · (with_reducible refine FixB.of ?_ ?_; rfl; intro w' hS; have s0 := H6.out.below hS H6l; have s1 := (HM3.out.below hS hgM).cp (j := (num f).toNat) (by omega); rw [Hpl.out] at s1; clear hS; unfold Oper.wp; go_simp; first | done | exact Below.refl _ _)
    · (with_reducible refine FixB.of ?_ ?_; rfl; intro w' hS; have s0 := H6.out.below hS H6l; have s1 := (HM3.out.below hS hgM).cp (j := (num f).toNat) (by omega); rw [Hpl.out] at s1; clear hS; unfold Oper.wp; go_simp; first | done | exact Below.refl _ _)
    · (with_reducible refine FixB.of ?_ ?_; rfl; intro w' hS; have s0 := H6.out.below hS H6l; have s1 := (HM3.out.below hS hgM).cp (j := (num f).toNat) (by omega); rw [Hpl.out] at s1; clear hS; unfold Oper.wp; go_simp; first | done | exact Below.refl _ _)
  case hQ =>
    intro wc hS _
    have hB : Below w.heap.size w wc := Hbb.out.trans (hS.mono (by omega))
    clear hS
    go_wp2
    go_ret
    exact ⟨rfl, hB⟩

theorem product_any {n : Int} {B g : Nat} {E : List M} {us : List (List Int)} (i k : Nat) (w : World) (h : MonAt n B g E us w) (hE : E.length ≤ 300) (hm : Mnd n E) (hi : i < E.length) (hk : k < E.length) :
    Calls Try.prog 139 #[.pointer (some ⟨g, 0, none⟩), I i, I k] w fun e w' => e = .returned (I (ix E (mul (gm E i) (gm E k)))) ∧ Below w.heap.size w w' := by
  have H := Lib.hid h
  obtain ⟨_, ev, wv, pl, vs, hM, hP, hO, _⟩ := h
  obtain ⟨gE, cE, rfl⟩ := hO.some_ (by omega)
  have h6 : ∀ j, j < E.length → SixAt w gE (j * 6) (gm E j) := fun j hj => by
    obtain ⟨b', off', e, _, h6⟩ := RdM.at_ hO.rd (k := j) hj
    injection e with e
    injection e with e1 e2 _
    subst e1 e2
    rw [Nat.zero_add] at h6
    exact h6
  have hgEl := (hO.lt gE rfl).2
  have hgl := hM.lt
  have Hi := Lib.hid (h6 i hi)
  have Hk := Lib.hid (h6 k hk)
  have HM := Lib.hid hM
  have hvi := (hm.ok _ (gm_mem hi)).1
  have hpi := (hm.ok _ (gm_mem hi)).2
  have hvk := (hm.ok _ (gm_mem hk)).1
  have hpk := (hm.ok _ (gm_mem hk)).2
  have hin := hm.mulE _ (gm_mem hi) _ (gm_mem hk)
  have hvm : Valid (mul (gm E i) (gm E k)) := Valid.mul hvi hvk (by rw [hpi, hpk])
  have hpm : (mul (gm E i) (gm E k)).p = n := hpi
  have hpl : plOf E (mul (gm E i) (gm E k)) - 1 = (ix E (mul (gm E i) (gm E k)) : Int) := by rw [plOf_in hin]; omega
  obtain ⟨x, hx⟩ : ∃ x, x = ix E (mul (gm E i) (gm E k)) := ⟨_, rfl⟩
  rw [← hx] at hpl ⊢
  obtain ⟨fi, hfi⟩ : ∃ fi, fi = gm E i := ⟨_, rfl⟩
  obtain ⟨fk, hfk⟩ : ∃ fk, fk = gm E k := ⟨_, rfl⟩
  rw [← hfi, ← hfk] at hvm hpm hpl
  rw [← hfi] at Hi hvi
  rw [← hfk] at Hk
  have Hpl := Lib.hid hpl
  have Hpm := Lib.hid hpm
  have ki : (i : Int) < (E.length : Int) := by omega
  have kk : (k : Int) < (E.length : Int) := by omega
  clear hM hP hO h6 hpi hvk hpk hin hx hfi hfk hpl hpm
  go_enter Try.func139, Try.ntmps139
  go_wp2_with fail
  refine wp_region_same [] rfl (by kernel_rfl) (by kernel_rfl) (by kernel_rfl) (fun w' => Below w.heap.size w w') _
    [.pointer (some ⟨g, 0, none⟩), .pointer (some ⟨g, 0, none⟩), .pointer (some ⟨g, 0, none⟩), .pointer (some ⟨g, 0, none⟩), .slice (some ⟨gE, 0, none⟩) E.length cE, I i, .pointer (some ⟨gE, i * 6, none⟩), .agg (mc fi), .pointer (some ⟨g, 0, none⟩), .pointer (some ⟨g, 0, none⟩), .pointer (some ⟨g, 0, none⟩), .slice (some ⟨gE, 0, none⟩) E.length cE, I k, .pointer (some ⟨gE, k * 6, none⟩), .agg (mc fk), .agg (mc (mul fi fk)), I x, I x]
    (by simp only [putAll, List.setIfInBounds_toArray, List.set_cons_succ, List.set_cons_zero]; rfl) (Below.refl _ _).drew ?hop ?hQ
  case hop =>
    refine FixBL.toL (fun w' w'' hS hb => hS.trans (hb.mono hS.size)) _ _ ?_
    refine ⟨.inr ?_, .inr ?_, .inr ?_, .inr ?_, .inr ?_, .inr ?_, .inr ?_, .inr ?_, .inr ?_, .inr ?_, .inr ?_, .inr ?_, .inr ?_, .inr ?_, .inr ?_, .inr ?_, .inr ?_, .inr ?_, trivial⟩
    · (with_reducible refine FixB.of ?_ ?_; rfl; intro w' hS; have s0 := Hi.out.below hS hgEl; have s1 := Hk.out.below hS hgEl; have s2 := (HM.out.below hS hgl).c0; clear hS; unfold Oper.wp; go_simp; first | done | exact Below.refl _ _)
    · (with_reducible refine FixB.of ?_ ?_; rfl; intro w' hS; have s0 := Hi.out.below hS hgEl; have s1 := Hk.out.below hS hgEl; have s2 := (HM.out.below hS hgl).c0; clear hS; unfold Oper.wp; go_simp; first | done | exact Below.refl _ _)
    · (with_reducible refine FixB.of ?_ ?_; rfl; intro w' hS; have s0 := Hi.out.below hS hgEl; have s1 := Hk.out.below hS hgEl; have s2 := (HM.out.below hS hgl).c0; clear hS; unfold Oper.wp; go_simp; first | done | exact Below.refl _ _)
    · (with_reducible refine FixB.of ?_ ?_; rfl; intro w' hS; have s0 := Hi.out.below hS hgEl; have s1 := Hk.out.below hS hgEl; have s2 := (HM.out.below hS hgl).c0; clear hS; unfold Oper.wp; go_simp; first | done | exact Below.refl _ _)
    · (with_reducible refine FixB.of ?_ ?_; rfl; intro w' hS; have s0 := Hi.out.below hS hgEl; have s1 := Hk.out.below hS hgEl; have s2 := (HM.out.below hS hgl).c0; clear hS; unfold Oper.wp; go_simp; first | done | exact Below.refl _ _)
    · (with_reducible refine FixB.of ?_ ?_; rfl; intro w' hS; have s0 := Hi.out.below hS hgEl; have s1 := Hk.out.below hS hgEl; have s2 := (HM.out.below hS hgl).c0; clear hS; unfold Oper.wp; go_simp; first | done | exact Below.refl _ _)
    · (with_reducible refine FixB.of ?_ ?_; rfl; intro w' hS; have s0 := Hi.out.below hS hgEl; have s1 := Hk.out.below hS hgEl; have s2 := (HM.out.below hS hgl).c0; clear hS; unfold Oper.wp; go_simp; first | done | exact Below.refl _ _)
    · (with_reducible refine FixB.of ?_ ?_; rfl; intro w' hS; have s0 := Hi.out.below hS hgEl; have s1 := Hk.out.below hS hgEl; have s2 := (HM.out.below hS hgl).c0; clear hS; unfold Oper.wp; go_simp; first | done | exact Below.refl _ _)
    · (with_reducible refine FixB.of ?_ ?_; rfl; intro w' hS; have s0 := Hi.out.below hS hgEl; have s1 := Hk.out.below hS hgEl; have s2 := (HM.out.below hS hgl).c0; clear hS; unfold Oper.wp; go_simp; first | done | exact Below.refl _ _)
    · (with_reducible refine FixB.of ?_ ?_; rfl; intro w' hS; have s0 := Hi.out.below hS hgEl; have s1 := Hk.out.below hS hgEl; have s2 := (HM.out.below hS hgl).c0; clear hS; unfold Oper.wp; go_simp; first | done | exact Below.refl _ _)
    · (with_reducible refine FixB.of ?_ ?_; rfl; intro w' hS; have s0 := Hi.out.below hS hgEl; have s1 := Hk.out.below hS hgEl; have s2 := (HM.out.below hS hgl).c0; clear hS; unfold Oper.wp; go_simp; first | done | exact Below.refl _ _)
    · (with_reducible refine FixB.of ?_ ?_; rfl; intro w' hS; have s0 := Hi.out.below hS hgEl; have s1 := Hk.out.below hS hgEl; have s2 := (HM.out.below hS hgl).c0; clear hS; unfold Oper.wp; go_simp; first | done | exact Below.refl _ _)
    · (with_reducible refine FixB.of ?_ ?_; rfl; intro w' hS; have s0 := Hi.out.below hS hgEl; have s1 := Hk.out.below hS hgEl; have s2 := (HM.out.below hS hgl).c0; clear hS; unfold Oper.wp; go_simp; first | done | exact Below.refl _ _)
    · (with_reducible refine FixB.of ?_ ?_; rfl; intro w' hS; have s0 := Hi.out.below hS hgEl; have s1 := Hk.out.below hS hgEl; have s2 := (HM.out.below hS hgl).c0; clear hS; unfold Oper.wp; go_simp; first | done | exact Below.refl _ _)
    · (with_reducible refine FixB.of ?_ ?_; rfl; intro w' hS; have s0 := Hi.out.below hS hgEl; have s1 := Hk.out.below hS hgEl; have s2 := (HM.out.below hS hgl).c0; clear hS; unfold Oper.wp; go_simp; first | done | exact Below.refl _ _)
    · (with_reducible refine FixB.of ?_ ?_; rfl; intro w' hS; have s3 := Lib.hid hS; unfold Oper.wp; clear hS; go_simp; refine (times_any fi fk _ hvi).mono ?_; rintro e w1 ⟨rfl, hb⟩; exact ⟨rfl, hb⟩)
    · with_reducible refine FixB.of ?_ ?_
      rfl
      intro w' hS
      have s3 := Lib.hid hS
      unfold Oper.wp
      clear hS
      go_simp
      refine (place_any (mul fi fk) _ (H.out.below s3.out (Nat.le_refl _)) hE hvm Hpm.out).mono ?_
      rintro e w1 ⟨rfl, hb⟩
      exact ⟨congrArg (Value.int .i64) Hpl.out, hb⟩
    · (with_reducible refine FixB.of ?_ ?_; rfl; intro w' hS; clear hS; unfold Oper.wp; go_simp; first | done | exact Below.refl _ _)
  case hQ =>
    intro wc hS _
    have Hb := Lib.hid hS
    clear hS
    go_wp2
    go_ret
    exact ⟨rfl, Hb.out⟩
end Go.Proofs.Ytknknljkmkfmoaa
