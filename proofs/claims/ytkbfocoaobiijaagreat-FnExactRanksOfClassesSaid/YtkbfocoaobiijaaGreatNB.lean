/- The contracts of place and product of a monoid; the monoid stands as the theorems say. The contracts of all, any and only of a monoid, for a predicate that its closure computes; the monoid stands as the theorems say. -/
import Derived.Test.YtkbfocoaobiijaaGreatNA
import Derived.Test.YtkbfocoaobiijaaGreatKA
namespace Go.Proofs.YtkbfocoaobiijaaGreat
open Go.RowKit
set_option maxRecDepth 100000

section
variable {n : Int} {B g : Nat} {E : List M} {us : List (List Int)} {w w' : World}
theorem MonAt.below {m : Nat} (h : MonAt n B g E us w) (hb : Below m w w') (hm : w.heap.size ≤ m) : MonAt n B g E us w' := by
  obtain ⟨ge, ev, wv, pl, vs, h1, h2, h3, h4, h5, h6, h7⟩ := h
  exact ⟨ge, ev, wv, pl, vs, h1.below hb (by have := h1.lt; omega), h2, h3.below hb hm, h4.below hb hm, h5, h6, fun j hj => (h7 j hj).below hb hm⟩
theorem MonAt.lt (h : MonAt n B g E us w) : g < w.heap.size := by obtain ⟨_, ev, wv, pl, vs, h1, _⟩ := h; exact h1.lt
theorem plOf_bd (E : List M) (f : M) : 0 ≤ plOf E f ∧ plOf E f ≤ E.length := by
  unfold plOf
  split
  · rename_i h; have := ix_lt h; omega
  · omega
end

theorem place_any {n : Int} {B g : Nat} {E : List M} {us : List (List Int)} (f : M) (w : World) (h : MonAt n B g E us w) (hE : E.length ≤ 300) (hf : Valid f) (hp : f.p = n) :
    Calls Tryz.prog 214 #[.pointer (some ⟨g, 0, none⟩), .agg (mc f)] w fun e w' => e = .returned (I (plOf E f - 1)) ∧ Below w.heap.size w w' := by
  obtain ⟨_, ev, wv, pl, vs, hM, hP, _⟩ := h
  have hpl := hP f hf hp
  have nb0 := (num_bd hf).1
  have nb1 := (num_bd hf).2
  have b0 := plOf_bd E f
  obtain ⟨x, hx⟩ : ∃ x, x = plOf E f := ⟨_, rfl⟩
  rw [← hx] at hpl b0 ⊢
  have x0 := b0.1
  have x1 := b0.2
  have hw1 : IntKind.i64.wrap (x - 1) = x - 1 := IntWalk.i64_in _ ⟨by omega, by omega⟩
  have HM := Lib.hid hM
  have hgl := hM.lt
  have Hpl := Lib.hid hpl
  clear hM hP hpl hx b0
  go_enter Tryz.func214, Tryz.ntmps214
  go_wp2_with fail
  obtain ⟨wb, hwb⟩ : ∃ wb, wb = w.alloc (.cells (mc f) 31) := ⟨_, rfl⟩
  have hszb : wb.heap.size = w.heap.size + 1 := by rw [hwb]; simp
  have hbb : Below w.heap.size w wb := by rw [hwb]; exact (Below.refl _ _).alloc (Nat.le_refl _) _
  have H6 : Hid (Six wb w.heap.size f) := by show Six _ _ _; rw [hwb]; exact Blk.six (Blk.new w _ _)
  have HM3 := Lib.hid (HM.out.below hbb HM.out.lt)
  have hgM := HM3.out.lt
  have H6l := H6.out.lt
  have Hbb := Lib.hid hbb
  rw [← hwb]
  clear hwb hbb HM
  refine wp_region_same [] rfl (by kernel_rfl) (by kernel_rfl) (by kernel_rfl) (fun w' => Below wb.heap.size wb w') _
    [.pointer (some ⟨g, 0, none⟩), .agg (mc f), I (num f), .pointer (some ⟨g, 0, none⟩), .pointer (some ⟨g, 2, none⟩), .pointer (some ⟨g, 2 + (num f).toNat, none⟩), I x, I (x - 1), I (x - 1)]
    (by simp only [putAll, List.setIfInBounds_toArray, List.set_cons_succ, List.set_cons_zero]; rfl) (Below.refl _ _).drew ?hop ?hQ
  case hop =>
    refine FixBL.toL (fun w' w'' hS hb => hS.trans (hb.mono hS.size)) _ _ ?_
    refine ⟨.inr ?_, .inr ?_, .inr ?_, .inr ?_, .inr ?_, .inr ?_, .inr ?_, .inr ?_, .inr ?_, trivial⟩
    · (with_reducible refine FixB.of ?_ ?_; rfl; intro w' hS; have s0 := H6.out.below hS H6l; have s1 := (HM3.out.below hS hgM).cp (j := (num f).toNat) (by omega); rw [Hpl.out] at s1; clear hS; unfold Oper.wp; go_simp; first | done | exact Below.refl _ _)
    · (with_reducible refine FixB.of ?_ ?_; rfl; intro w' hS; have s0 := H6.out.below hS H6l; have s1 := (HM3.out.below hS hgM).cp (j := (num f).toNat) (by omega); rw [Hpl.out] at s1; clear hS; unfold Oper.wp; go_simp; first | done | exact Below.refl _ _)
    · (with_reducible refine FixB.of ?_ ?_; rfl; intro w' hS; have s3 := Lib.hid hS; unfold Oper.wp; clear hS; go_simp; refine (number_any f _ hf).mono ?_; rintro e w1 ⟨rfl, hb⟩; exact ⟨rfl, hb⟩)
    · (with_reducible refine FixB.of ?_ ?_; rfl; intro w' hS; have s0 := H6.out.below hS H6l; have s1 := (HM3.out.below hS hgM).cp (j := (num f).toNat) (by omega); rw [Hpl.out] at s1; clear hS; unfold Oper.wp; go_simp; first | done | exact Below.refl _ _)
    · (with_reducible refine FixB.of ?_ ?_; rfl; intro w' hS; have s0 := H6.out.below hS H6l; have s1 := (HM3.out.below hS hgM).cp (j := (num f).toNat) (by omega); rw [Hpl.out] at s1; clear hS; unfold Oper.wp; go_simp; first | done | exact Below.refl _ _)
    · (with_reducible refine FixB.of ?_ ?_; rfl; intro w' hS; have s0 := H6.out.below hS H6l; have s1 := (HM3.out.below hS hgM).cp (j := (num f).toNat) (by omega); rw [Hpl.out] at s1; clear hS; unfold Oper.wp; go_simp; first | done | exact Below.refl _ _)
    · (with_reducible refine FixB.of ?_ ?_; rfl; intro w' hS; have s0 := H6.out.below hS H6l; have s1 := (HM3.out.below hS hgM).cp (j := (num f).toNat) (by omega); rw [Hpl.out] at s1; clear hS; unfold Oper.wp; go_simp; first | done | exact Below.refl _ _)
    · (with_reducible refine FixB.of ?_ ?_; rfl; intro w' hS; have s0 := H6.out.below hS H6l; have s1 := (HM3.out.below hS hgM).cp (j := (num f).toNat) (by omega); rw [Hpl.out] at s1; clear hS; unfold Oper.wp; go_simp; first | done | exact Below.refl _ _)
    · (with_reducible refine FixB.of ?_ ?_; rfl; intro w' hS; have s0 := H6.out.below hS H6l; have s1 := (HM3.out.below hS hgM).cp (j := (num f).toNat) (by omega); rw [Hpl.out] at s1; clear hS; unfold Oper.wp; go_simp; first | done | exact Below.refl _ _)
  case hQ =>
    intro wc hS _
    have hB : Below w.heap.size w wc := Hbb.out.trans (hS.mono (by omega))
    clear hS
    go_wp2
    go_ret
    exact ⟨rfl, hB⟩

theorem product_any {n : Int} {B g : Nat} {E : List M} {us : List (List Int)} (i k : Nat) (w : World) (h : MonAt n B g E us w) (hE : E.length ≤ 300) (hm : Mnd n E) (hi : i < E.length) (hk : k < E.length) :
    Calls Tryz.prog 212 #[.pointer (some ⟨g, 0, none⟩), I i, I k] w fun e w' => e = .returned (I (ix E (mul (gm E i) (gm E k)))) ∧ Below w.heap.size w w' := by
  have H := Lib.hid h
  obtain ⟨_, ev, wv, pl, vs, hM, hP, hO, _⟩ := h
  obtain ⟨gE, cE, rfl⟩ := hO.some_ (by omega)
  have h6 : ∀ j, j < E.length → SixAt w gE (j * 6) (gm E j) := fun j hj => by
    obtain ⟨b', off', e, _, h6⟩ := RdM.at_ hO.rd (k := j) hj
    injection e with e
    injection e with e1 e2 _
    subst e1 e2
    rw [Nat.zero_add] at h6
    exact h6
  have hgEl := (hO.lt gE rfl).2
  have hgl := hM.lt
  have Hi := Lib.hid (h6 i hi)
  have Hk := Lib.hid (h6 k hk)
  have HM := Lib.hid hM
  have hvi := (hm.ok _ (gm_mem hi)).1
  have hpi := (hm.ok _ (gm_mem hi)).2
  have hvk := (hm.ok _ (gm_mem hk)).1
  have hpk := (hm.ok _ (gm_mem hk)).2
  have hin := hm.mulE _ (gm_mem hi) _ (gm_mem hk)
  have hvm : Valid (mul (gm E i) (gm E k)) := Valid.mul hvi hvk (by rw [hpi, hpk])
  have hpm : (mul (gm E i) (gm E k)).p = n := hpi
  have hpl : plOf E (mul (gm E i) (gm E k)) - 1 = (ix E (mul (gm E i) (gm E k)) : Int) := by rw [plOf_in hin]; omega
  obtain ⟨x, hx⟩ : ∃ x, x = ix E (mul (gm E i) (gm E k)) := ⟨_, rfl⟩
  rw [← hx] at hpl ⊢
  obtain ⟨fi, hfi⟩ : ∃ fi, fi = gm E i := ⟨_, rfl⟩
  obtain ⟨fk, hfk⟩ : ∃ fk, fk = gm E k := ⟨_, rfl⟩
  rw [← hfi, ← hfk] at hvm hpm hpl
  rw [← hfi] at Hi hvi
  rw [← hfk] at Hk
  have Hpl := Lib.hid hpl
  have Hpm := Lib.hid hpm
  have ki : (i : Int) < (E.length : Int) := by omega
  have kk : (k : Int) < (E.length : Int) := by omega
  clear hM hP hO h6 hpi hvk hpk hin hx hfi hfk hpl hpm
  go_enter Tryz.func212, Tryz.ntmps212
  go_wp2_with fail
  refine wp_region_same [] rfl (by kernel_rfl) (by kernel_rfl) (by kernel_rfl) (fun w' => Below w.heap.size w w') _
    [.pointer (some ⟨g, 0, none⟩), .pointer (some ⟨g, 0, none⟩), .pointer (some ⟨g, 0, none⟩), .pointer (some ⟨g, 0, none⟩), .slice (some ⟨gE, 0, none⟩) E.length cE, I i, .pointer (some ⟨gE, i * 6, none⟩), .agg (mc fi), .pointer (some ⟨g, 0, none⟩), .pointer (some ⟨g, 0, none⟩), .pointer (some ⟨g, 0, none⟩), .slice (some ⟨gE, 0, none⟩) E.length cE, I k, .pointer (some ⟨gE, k * 6, none⟩), .agg (mc fk), .agg (mc (mul fi fk)), I x, I x]
    (by simp only [putAll, List.setIfInBounds_toArray, List.set_cons_succ, List.set_cons_zero]; rfl) (Below.refl _ _).drew ?hop ?hQ
  case hop =>
    refine FixBL.toL (fun w' w'' hS hb => hS.trans (hb.mono hS.size)) _ _ ?_
    refine ⟨.inr ?_, .inr ?_, .inr ?_, .inr ?_, .inr ?_, .inr ?_, .inr ?_, .inr ?_, .inr ?_, .inr ?_, .inr ?_, .inr ?_, .inr ?_, .inr ?_, .inr ?_, .inr ?_, .inr ?_, .inr ?_, trivial⟩
    · (with_reducible refine FixB.of ?_ ?_; rfl; intro w' hS; have s0 := Hi.out.below hS hgEl; have s1 := Hk.out.below hS hgEl; have s2 := (HM.out.below hS hgl).c0; clear hS; unfold Oper.wp; go_simp; first | done | exact Below.refl _ _)
    · (with_reducible refine FixB.of ?_ ?_; rfl; intro w' hS; have s0 := Hi.out.below hS hgEl; have s1 := Hk.out.below hS hgEl; have s2 := (HM.out.below hS hgl).c0; clear hS; unfold Oper.wp; go_simp; first | done | exact Below.refl _ _)
    · (with_reducible refine FixB.of ?_ ?_; rfl; intro w' hS; have s0 := Hi.out.below hS hgEl; have s1 := Hk.out.below hS hgEl; have s2 := (HM.out.below hS hgl).c0; clear hS; unfold Oper.wp; go_simp; first | done | exact Below.refl _ _)
    · (with_reducible refine FixB.of ?_ ?_; rfl; intro w' hS; have s0 := Hi.out.below hS hgEl; have s1 := Hk.out.below hS hgEl; have s2 := (HM.out.below hS hgl).c0; clear hS; unfold Oper.wp; go_simp; first | done | exact Below.refl _ _)
    · (with_reducible refine FixB.of ?_ ?_; rfl; intro w' hS; have s0 := Hi.out.below hS hgEl; have s1 := Hk.out.below hS hgEl; have s2 := (HM.out.below hS hgl).c0; clear hS; unfold Oper.wp; go_simp; first | done | exact Below.refl _ _)
    · (with_reducible refine FixB.of ?_ ?_; rfl; intro w' hS; have s0 := Hi.out.below hS hgEl; have s1 := Hk.out.below hS hgEl; have s2 := (HM.out.below hS hgl).c0; clear hS; unfold Oper.wp; go_simp; first | done | exact Below.refl _ _)
    · (with_reducible refine FixB.of ?_ ?_; rfl; intro w' hS; have s0 := Hi.out.below hS hgEl; have s1 := Hk.out.below hS hgEl; have s2 := (HM.out.below hS hgl).c0; clear hS; unfold Oper.wp; go_simp; first | done | exact Below.refl _ _)
    · (with_reducible refine FixB.of ?_ ?_; rfl; intro w' hS; have s0 := Hi.out.below hS hgEl; have s1 := Hk.out.below hS hgEl; have s2 := (HM.out.below hS hgl).c0; clear hS; unfold Oper.wp; go_simp; first | done | exact Below.refl _ _)
    · (with_reducible refine FixB.of ?_ ?_; rfl; intro w' hS; have s0 := Hi.out.below hS hgEl; have s1 := Hk.out.below hS hgEl; have s2 := (HM.out.below hS hgl).c0; clear hS; unfold Oper.wp; go_simp; first | done | exact Below.refl _ _)
    · (with_reducible refine FixB.of ?_ ?_; rfl; intro w' hS; have s0 := Hi.out.below hS hgEl; have s1 := Hk.out.below hS hgEl; have s2 := (HM.out.below hS hgl).c0; clear hS; unfold Oper.wp; go_simp; first | done | exact Below.refl _ _)
    · (with_reducible refine FixB.of ?_ ?_; rfl; intro w' hS; have s0 := Hi.out.below hS hgEl; have s1 := Hk.out.below hS hgEl; have s2 := (HM.out.below hS hgl).c0; clear hS; unfold Oper.wp; go_simp; first | done | exact Below.refl _ _)
    · (with_reducible refine FixB.of ?_ ?_; rfl; intro w' hS; have s0 := Hi.out.below hS hgEl; have s1 := Hk.out.below hS hgEl; have s2 := (HM.out.below hS hgl).c0; clear hS; unfold Oper.wp; go_simp; first | done | exact Below.refl _ _)
    · (with_reducible refine FixB.of ?_ ?_; rfl; intro w' hS; have s0 := Hi.out.below hS hgEl; have s1 := Hk.out.below hS hgEl; have s2 := (HM.out.below hS hgl).c0; clear hS; unfold Oper.wp; go_simp; first | done | exact Below.refl _ _)
    · (with_reducible refine FixB.of ?_ ?_; rfl; intro w' hS; have s0 := Hi.out.below hS hgEl; have s1 := Hk.out.below hS hgEl; have s2 := (HM.out.below hS hgl).c0; clear hS; unfold Oper.wp; go_simp; first | done | exact Below.refl _ _)
    · (with_reducible refine FixB.of ?_ ?_; rfl; intro w' hS; have s0 := Hi.out.below hS hgEl; have s1 := Hk.out.below hS hgEl; have s2 := (HM.out.below hS hgl).c0; clear hS; unfold Oper.wp; go_simp; first | done | exact Below.refl _ _)
    · (with_reducible refine FixB.of ?_ ?_; rfl; intro w' hS; have s3 := Lib.hid hS; unfold Oper.wp; clear hS; go_simp; refine (times_any fi fk _ hvi).mono ?_; rintro e w1 ⟨rfl, hb⟩; exact ⟨rfl, hb⟩)
    · with_reducible refine FixB.of ?_ ?_
      rfl
      intro w' hS
      have s3 := Lib.hid hS
      unfold Oper.wp
      clear hS
      go_simp
      refine (place_any (mul fi fk) _ (H.out.below s3.out (Nat.le_refl _)) hE hvm Hpm.out).mono ?_
      rintro e w1 ⟨rfl, hb⟩
      exact ⟨congrArg (Value.int .i64) Hpl.out, hb⟩
    · (with_reducible refine FixB.of ?_ ?_; rfl; intro w' hS; clear hS; unfold Oper.wp; go_simp; first | done | exact Below.refl _ _)
  case hQ =>
    intro wc hS _
    have Hb := Lib.hid hS
    clear hS
    go_wp2
    go_ret
    exact ⟨rfl, Hb.out⟩

set_option maxRecDepth 100000

/-- the closure of fn and caps computes the predicate p on the places of a monoid, from the world w on -/
def PredC (fn : Nat) (caps : Array Value) (N : Nat) (p : Nat → Bool) (w : World) : Prop :=
  (∀ args w, (callFunc fn args).run Tryz.prog w = .ok (.enter fn args) w) ∧
  ∀ w', Below w.heap.size w w' → ∀ i, i < N → Calls Tryz.prog fn (#[I i] ++ caps) w' fun e w'' => e = .returned (.bool (p i)) ∧ Below w'.heap.size w' w''

theorem all_any {n : Int} {B g : Nat} {E : List M} {us : List (List Int)} (fn : Nat) (caps : Array Value) (p : Nat → Bool) (w : World) (h : MonAt n B g E us w) (hE : E.length ≤ 300) (hpos : 0 < E.length) (hc : PredC fn caps E.length p w) :
    Calls Tryz.prog 132 #[.pointer (some ⟨g, 0, none⟩), .func (.func fn) #[] caps] w fun e w' => e = .returned (.bool ((List.range E.length).all p)) ∧ Below w.heap.size w w' := by
  obtain ⟨eg, hc⟩ := hc
  obtain ⟨_, ev, wv, pl, vs, hM, hP, hO, _⟩ := h
  obtain ⟨gE, cE, rfl⟩ := hO.some_ (by omega)
  have c0 := hM.c0
  have Hc := Lib.hid hc
  clear hM hP hO hc
  go_enter Tryz.func132, Tryz.ntmps132
  go_wp2_with fail
  go_loopw [11] (fun i wr => ∃ r : Nat, i = .int .i64 r ∧ r ≤ E.length ∧ Below w.heap.size w wr ∧ (List.range r).all p = true) (fun i _ => E.length - (intOf i).toNat)
  case atStart => exact ⟨0, rfl, by omega, Below.refl _ _, rfl⟩
  case round =>
    obtain ⟨r, rfl, hr, hb, hp⟩ := hrel
    have Hb := Lib.hid hb
    have Hp := Lib.hid hp
    clear hb hp
    by_cases hrl : r < E.length
    · have hrE : (r : Int) < (E.length : Int) := by omega
      go_wp2_with fail
      refine (Hc.out _ Hb.out r hrl).mono ?_
      rintro e w2 ⟨rfl, hb2⟩
      have Hb2 := Lib.hid (Hb.out.trans (hb2.mono Hb.out.size))
      have hs : (List.range (r + 1)).all p = p r := by rw [List.range_succ, List.all_append, Hp.out]; simp
      clear hb2
      cases hpr : p r
      · have hall : (List.range E.length).all p = false := by
          rw [Bool.eq_false_iff, ne_eq, List.all_eq_true]
          intro h
          rw [h r (List.mem_range.2 hrl)] at hpr
          cases hpr
        go_wp2
        go_ret
        exact ⟨by rw [hall]; rfl, Hb2.out⟩
      · rw [hpr] at hs
        have Hs := Lib.hid hs
        clear hs
        go_wp2
        go_roundw
        case rel => exact ⟨r + 1, by go_num, by omega, Hb2.out, Hs.out⟩
        case measure => simp [intOf]; omega
    · obtain rfl : r = E.length := by omega
      have hrl' : ¬ ((E.length : Int) < (E.length : Int)) := by omega
      go_wp2
      go_ret
      exact ⟨by rw [Hp.out]; rfl, Hb.out⟩

theorem PredC.below {fn : Nat} {caps : Array Value} {N : Nat} {p : Nat → Bool} {w w' : World} (h : PredC fn caps N p w) (hb : Below w.heap.size w w') : PredC fn caps N p w' :=
  ⟨h.1, fun w2 hb2 i hi => h.2 w2 (hb.trans (hb2.mono hb.size)) i hi⟩

theorem only_any {n : Int} {B g : Nat} {E : List M} {us : List (List Int)} (fn : Nat) (caps : Array Value) (p : Nat → Bool) (w : World) (h : MonAt n B g E us w) (hE : E.length ≤ 300) (hpos : 0 < E.length) (hc : PredC fn caps E.length p w) :
    Calls Tryz.prog 158 #[.pointer (some ⟨g, 0, none⟩), .func (.func fn) #[] caps] w fun e w' => ∃ v, e = .returned v ∧ OwM 31 w' w.heap.size v (((List.range E.length).filter p).map (gm E)) ∧ Below w.heap.size w w' := by
  obtain ⟨eg, hc⟩ := hc
  have H := Lib.hid h
  obtain ⟨_, ev, wv, pl, vs, hM, hP, hO, _⟩ := h
  obtain ⟨gE, cE, rfl⟩ := hO.some_ (by omega)
  have c0 := hM.c0
  have Hc := Lib.hid hc
  have HO := Lib.hid hO
  clear hM hP hO hc
  go_enter Tryz.func158, Tryz.ntmps158
  go_wp2_with fail
  go_loopw [13, 5] (fun i v wr => ∃ r : Nat, i = .int .i64 r ∧ r ≤ E.length ∧ Below w.heap.size w wr ∧ OwM 31 wr w.heap.size v (((List.range r).filter p).map (gm E))) (fun i _ _ => E.length - (intOf i).toNat)
  case atStart => exact ⟨0, rfl, by omega, Below.refl _ _, OwM.nil_⟩
  case round =>
    obtain ⟨r, rfl, hr, hb, ho⟩ := hrel
    by_cases hrl : r < E.length
    · have hrE : (r : Int) < (E.length : Int) := by omega
      obtain ⟨f, hf⟩ : ∃ f, f = gm E r := ⟨_, rfl⟩
      have s0 : SixAt wr gE (r * 6) f := by
        have h6 := RdM.at_ (HO.out.below hb (Nat.le_refl _)).rd (k := r) hrl
        obtain ⟨b', off', e, _, h6⟩ := h6
        injection e with e
        injection e with e1 e2 _
        subst e1 e2
        rw [Nat.zero_add, ← hf] at h6
        exact h6
      have Hb := Lib.hid hb
      have Ho := Lib.hid ho
      have Hf := Lib.hid hf
      have hsz := hb.size
      clear hb ho hf
      go_wp2_with fail
      obtain ⟨wb, hwb⟩ : ∃ wb, wb = wr.alloc (.cells (mc f) 31) := ⟨_, rfl⟩
      have H6 : Hid (Six wb wr.heap.size f) := by show Six _ _ _; rw [hwb]; exact Blk.six (Blk.new wr _ _)
      have Hob := Lib.hid (Ho.out.alloc (.cells (mc f) 31))
      have Hbb := Lib.hid (Hb.out.alloc hsz (.cells (mc f) 31))
      have hlb : wb.heap.size = wr.heap.size + 1 := by rw [hwb]; simp
      rw [← hwb] at Hob Hbb ⊢
      clear hwb s0 Ho Hb
      refine (Hc.out _ Hbb.out r hrl).mono ?_
      rintro e w2 ⟨rfl, hb2⟩
      have Hb2 := Lib.hid (Hbb.out.trans (hb2.mono Hbb.out.size))
      have Ho2 := Lib.hid (Hob.out.below hb2 (Nat.le_refl _))
      have s0 := H6.out.below hb2 (by omega)
      have hsz2 := hb2.size
      have hs : ((List.range (r + 1)).filter p).map (gm E) = ((List.range r).filter p).map (gm E) ++ (if p r then [f] else []) := by
        rw [List.range_succ, List.filter_append, List.map_append, Hf.out]
        cases hpr : p r <;> simp [hpr]
      have Hs := Lib.hid hs
      clear hb2 hs Hob Hbb H6
      cases hpr : p r
      · have hs2 := Hs.out
        rw [hpr] at hs2
        simp only [Bool.false_eq_true, if_false, List.append_nil] at hs2
        have Hs2 := Lib.hid hs2
        clear hs2 s0
        go_wp2
        go_roundw
        case rel => exact ⟨r + 1, by go_num, by omega, Hb2.out, by rw [Hs2.out]; exact Ho2.out⟩
        case measure => simp [intOf]; omega
      · have hs2 := Hs.out
        rw [hpr] at hs2
        simp only [if_true] at hs2
        have Hs2 := Lib.hid hs2
        obtain ⟨Lr, hL⟩ : ∃ Lr, Lr = ((List.range r).filter p).map (gm E) := ⟨_, rfl⟩
        rw [← hL] at Ho2 Hs2
        have hN : Lr.length ≤ 300 := by
          rw [hL, List.length_map]
          have := List.length_filter_le p (List.range r)
          rw [List.length_range] at this
          omega
        obtain ⟨A, cA, hv, _⟩ := Ho2.out.form
        subst hv
        obtain ⟨N, hNN⟩ : ∃ N, Lr.length = N := ⟨_, rfl⟩
        rw [hNN] at Ho2 hN ⊢
        have HN := Lib.hid hNN
        have hsw : w.heap.size ≤ w2.heap.size := by omega
        clear hs2 hL hNN
        go_wp2_with (at_builtin; refine wpList_pushM rfl (.tmp 21) (.tmp 23) rfl w.heap.size (.slice A N cA) Lr rfl (Ho2.out.alloc _) N HN.out w2.heap.size 1 f rfl (Blk.six (Blk.new _ _ _)) (by omega) (by simp; omega) (w2.heap.size + 1) (by simp) ?_; intro g' cap w4 ho' hgr hg' hlt')
        have Hb4 := Lib.hid (((Ho2.out.alloc _).bel (Hb2.out.alloc hsw _) hgr (Nat.le_refl _) (by simp; omega)))
        have Ho4 := Lib.hid ho'
        clear ho' hgr hg' hlt'
        go_wp2
        go_roundw
        case rel => exact ⟨r + 1, by go_num, by omega, Hb4.out, by rw [Hs2.out]; exact Ho4.out⟩
        case measure => simp [intOf]; omega
    · obtain rfl : r = E.length := by omega
      have hrl' : ¬ ((E.length : Int) < (E.length : Int)) := by omega
      have Hb := Lib.hid hb
      have Ho := Lib.hid ho
      clear hb ho
      go_wp2
      go_ret
      exact ⟨_, rfl, Ho.out, Hb.out⟩
end Go.Proofs.YtkbfocoaobiijaaGreat
