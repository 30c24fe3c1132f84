/- The walk of the statement on RenumberMap; no conditions. -/
import Derived.Test.YtomhmodpiddedaaE4
import Derived.Test.YtomhmodpiddedaaS1
import Derived.Test.YtomhmodpiddedaaReg
namespace Go.Proofs.Ytomhmodpiddedaa
open Go.RowKit
set_option maxRecDepth 100000

theorem lawRenumber (f g : M) (w : World) :
    Calls Try.prog 11 #[.agg (mc f), .agg (mc g)] w fun e w' => e = .returned (.bool true) ∧ Below w.heap.size w w' := by
  go_enter Try.func11, Try.ntmps11
  go_wp2_with fail
  refine wp_region_box [] rfl (by kernel_rfl) (by kernel_rfl) (by kernel_rfl) (fun w' => Six w' (w.heap.size) (f) ∧ Six w' (w.heap.size + 1) (g) ∧ Below w.heap.size w w') _
    (fun q => [.agg (mc f), .agg (mc f), .agg (mc g), .agg (mc g), .tuple #[.agg (mc (rnR f g)), I (rnC f g)], .tuple #[.agg (mc (rnR f g)), I (rnC f g)], .agg (mc (rnR f g)), I (rnC f g), .pointer (some ⟨q, 0, none⟩), undef, I (rnC f g)]) (by intro q; simp only [putAll, List.setIfInBounds_toArray, List.set_cons_succ, List.set_cons_zero]; rfl) ?hS 8 9 5 _ _ rfl rfl 28 (mc M0) (mc (rnR f g)) (by kernel_rfl) (by kernel_rfl) (by decide) (fun _ _ => rfl) ?hop ?hal ?hst ?hQ
  case hS => exact ⟨Six.alloc (Blk.six (Blk.new w _ _)) _, Blk.six (Blk.new' _ _ _ (by simp)), by (repeat (first | with_reducible assumption | with_reducible exact Below.refl _ _ | with_reducible refine Below.setCell ?_ (by first | omega | (simp <;> omega)) _ | with_reducible refine Below.alloc ?_ (by first | omega | (simp <;> omega)) _ | with_reducible refine Below.drew ?_ | with_reducible refine Below.drewN ?_ _))⟩
  case hop =>
    intro q
    refine ⟨.inr ?_, .inr ?_, .inr ?_, .inr ?_, .inr ?_, .inr ?_, .inr ?_, .inr ?_, .inl rfl, .inl rfl, .inr ?_, trivial⟩
    · (with_reducible refine Fix.of ?_ ?_; rfl; intro w' hS; have s0 := hS.1; have s1 := hS.2.1; unfold Oper.wp; go_simp; first | done | exact Below.refl _ _ | exact ⟨hS, Below.refl _ _⟩ | exact ⟨hS.2.2, Below.refl _ _⟩ | exact ⟨hS.1, hS.2.1, Below.refl _ _⟩ | exact ⟨⟨hS.1, hS.2.1⟩, Below.refl _ _⟩ | exact ⟨hS.1, hS.2.1, hS.2.2, Below.refl _ _⟩)
    · (with_reducible refine Fix.of ?_ ?_; rfl; intro w' hS; have s3 := Lib.hid hS; unfold Oper.wp; clear hS; go_simp; refine (toMap_any f _).mono ?_; rintro e w1 ⟨rfl, hb⟩; exact ⟨rfl, ⟨s3.out.1.below hb s3.out.1.lt, s3.out.2.1.below hb s3.out.2.1.lt, s3.out.2.2.trans (hb.mono s3.out.2.2.size)⟩, hb⟩)
    · (with_reducible refine Fix.of ?_ ?_; rfl; intro w' hS; have s0 := hS.1; have s1 := hS.2.1; unfold Oper.wp; go_simp; first | done | exact Below.refl _ _ | exact ⟨hS, Below.refl _ _⟩ | exact ⟨hS.2.2, Below.refl _ _⟩ | exact ⟨hS.1, hS.2.1, Below.refl _ _⟩ | exact ⟨⟨hS.1, hS.2.1⟩, Below.refl _ _⟩ | exact ⟨hS.1, hS.2.1, hS.2.2, Below.refl _ _⟩)
    · (with_reducible refine Fix.of ?_ ?_; rfl; intro w' hS; have s3 := Lib.hid hS; unfold Oper.wp; clear hS; go_simp; refine (toMap_any g _).mono ?_; rintro e w1 ⟨rfl, hb⟩; exact ⟨rfl, ⟨s3.out.1.below hb s3.out.1.lt, s3.out.2.1.below hb s3.out.2.1.lt, s3.out.2.2.trans (hb.mono s3.out.2.2.size)⟩, hb⟩)
    · (with_reducible refine Fix.of ?_ ?_; rfl; intro w' hS; have s3 := Lib.hid hS; unfold Oper.wp; clear hS; go_simp; refine (SpecRenumber_any f g _).mono ?_; rintro e w1 ⟨rfl, hb⟩; exact ⟨rfl, ⟨s3.out.1.below hb s3.out.1.lt, s3.out.2.1.below hb s3.out.2.1.lt, s3.out.2.2.trans (hb.mono s3.out.2.2.size)⟩, hb⟩)
    · (with_reducible refine Fix.of ?_ ?_; rfl; intro w' hS; have s0 := hS.1; have s1 := hS.2.1; unfold Oper.wp; go_simp; first | done | exact Below.refl _ _ | exact ⟨hS, Below.refl _ _⟩ | exact ⟨hS.2.2, Below.refl _ _⟩ | exact ⟨hS.1, hS.2.1, Below.refl _ _⟩ | exact ⟨⟨hS.1, hS.2.1⟩, Below.refl _ _⟩ | exact ⟨hS.1, hS.2.1, hS.2.2, Below.refl _ _⟩)
    · (with_reducible refine Fix.of ?_ ?_; rfl; intro w' hS; have s0 := hS.1; have s1 := hS.2.1; unfold Oper.wp; go_simp; first | done | exact Below.refl _ _ | exact ⟨hS, Below.refl _ _⟩ | exact ⟨hS.2.2, Below.refl _ _⟩ | exact ⟨hS.1, hS.2.1, Below.refl _ _⟩ | exact ⟨⟨hS.1, hS.2.1⟩, Below.refl _ _⟩ | exact ⟨hS.1, hS.2.1, hS.2.2, Below.refl _ _⟩)
    · (with_reducible refine Fix.of ?_ ?_; rfl; intro w' hS; have s0 := hS.1; have s1 := hS.2.1; unfold Oper.wp; go_simp; first | done | exact Below.refl _ _ | exact ⟨hS, Below.refl _ _⟩ | exact ⟨hS.2.2, Below.refl _ _⟩ | exact ⟨hS.1, hS.2.1, Below.refl _ _⟩ | exact ⟨⟨hS.1, hS.2.1⟩, Below.refl _ _⟩ | exact ⟨hS.1, hS.2.1, hS.2.2, Below.refl _ _⟩)
    · (with_reducible refine Fix.of ?_ ?_; rfl; intro w' hS; have s0 := hS.1; have s1 := hS.2.1; unfold Oper.wp; go_simp; first | done | exact Below.refl _ _ | exact ⟨hS, Below.refl _ _⟩ | exact ⟨hS.2.2, Below.refl _ _⟩ | exact ⟨hS.1, hS.2.1, Below.refl _ _⟩ | exact ⟨⟨hS.1, hS.2.1⟩, Below.refl _ _⟩ | exact ⟨hS.1, hS.2.1, hS.2.2, Below.refl _ _⟩)
  case hal =>
    intro q
    refine ⟨rfl, fun w' hS => ?_⟩
    have s3 := Lib.hid hS
    clear hS
    unfold Oper.wp
    go_simp
    exact ⟨rfl, s3.out.1.alloc _, s3.out.2.1.alloc _, s3.out.2.2.alloc s3.out.2.2.size _⟩
  case hst =>
    intro q
    refine ⟨rfl, fun w' hS hq hB => ?_⟩
    have s3 := Lib.hid hS
    clear hS
    have d := hB.six
    have z := hB.fr6
    unfold Oper.wp
    go_simp
    have hq2 := hq
    try simp only [World.size_alloc] at hq2
    exact ⟨⟨s3.out.1.st6 (by first | omega | (have := hlt0; omega)) _, s3.out.2.1.st6 (by first | omega | (have := hlt1; omega)) _, below_st6 s3.out.2.2 (by first | omega | (have := s3.out.2.2.size; omega)) _⟩, hB.st6 _, below_st6 (Below.refl _ _) (by first | omega | (simp <;> omega)) _⟩
  case hQ =>
    intro q w' hS hq hB hbel
    obtain ⟨p1, rfl⟩ : ∃ p1, p1 = q := ⟨_, rfl⟩
    obtain ⟨w1, rfl⟩ : ∃ w1, w1 = w' := ⟨_, rfl⟩
    have hlt0 := hS.1.lt
    have hlt1 := hS.2.1.lt
    have hlt2 := hB.lt
    have HS0 : Hid (Six w1.drew w.heap.size f ∧ Six w1.drew (w.heap.size + 1) g ∧ Six w1.drew p1 (rnR f g) ∧ Below w.heap.size w w1.drew) := ⟨hS.1, hS.2.1, hB.six, hS.2.2.drew⟩
    clear hq hB hS hbel
    go_wp2_with fail
    refine wp_region_box [] rfl (by kernel_rfl) (by kernel_rfl) (by kernel_rfl) (fun w' => Six w' (w.heap.size) (f) ∧ Six w' (w.heap.size + 1) (g) ∧ Six w' (p1) (rnR f g) ∧ Below w.heap.size w w') _
      (fun q => [.agg (mc f), .agg (mc f), .agg (mc g), .agg (mc g), .tuple #[.agg (mc (rnR f g)), I (rnC f g)], .tuple #[.agg (mc (rnR f g)), I (rnC f g)], .agg (mc (rnR f g)), I (rnC f g), .pointer (some ⟨q, 0, none⟩), undef, I (rnC f g)]) (by intro q; simp only [putAll, List.setIfInBounds_toArray, List.set_cons_succ, List.set_cons_zero]; rfl) ?hS 8 9 7 _ _ rfl rfl 28 (mc M0) (mc (rnR f g)) (by kernel_rfl) (by kernel_rfl) (by decide) (fun _ _ => rfl) ?hop ?hal ?hst ?hQ
    case hS => exact HS0.out
    case hop =>
      intro q
      refine ⟨.inr ?_, .inr ?_, .inr ?_, .inr ?_, .inr ?_, .inr ?_, .inr ?_, .inr ?_, .inl rfl, .inl rfl, .inr ?_, trivial⟩
      · (with_reducible refine Fix.of ?_ ?_; rfl; intro w' hS; have s0 := hS.1; have s1 := hS.2.1; have s2 := hS.2.2.1; unfold Oper.wp; go_simp; first | done | exact Below.refl _ _ | exact ⟨hS, Below.refl _ _⟩ | exact ⟨hS.2.2.2, Below.refl _ _⟩ | exact ⟨hS.1, hS.2.1, hS.2.2.1, Below.refl _ _⟩ | exact ⟨⟨hS.1, hS.2.1, hS.2.2.1⟩, Below.refl _ _⟩ | exact ⟨hS.1, hS.2.1, hS.2.2.1, hS.2.2.2, Below.refl _ _⟩)
      · (with_reducible refine Fix.of ?_ ?_; rfl; intro w' hS; have s3 := Lib.hid hS; unfold Oper.wp; clear hS; go_simp; refine (toMap_any f _).mono ?_; rintro e w1 ⟨rfl, hb⟩; exact ⟨rfl, ⟨s3.out.1.below hb s3.out.1.lt, s3.out.2.1.below hb s3.out.2.1.lt, s3.out.2.2.1.below hb s3.out.2.2.1.lt, s3.out.2.2.2.trans (hb.mono s3.out.2.2.2.size)⟩, hb⟩)
      · (with_reducible refine Fix.of ?_ ?_; rfl; intro w' hS; have s0 := hS.1; have s1 := hS.2.1; have s2 := hS.2.2.1; unfold Oper.wp; go_simp; first | done | exact Below.refl _ _ | exact ⟨hS, Below.refl _ _⟩ | exact ⟨hS.2.2.2, Below.refl _ _⟩ | exact ⟨hS.1, hS.2.1, hS.2.2.1, Below.refl _ _⟩ | exact ⟨⟨hS.1, hS.2.1, hS.2.2.1⟩, Below.refl _ _⟩ | exact ⟨hS.1, hS.2.1, hS.2.2.1, hS.2.2.2, Below.refl _ _⟩)
      · (with_reducible refine Fix.of ?_ ?_; rfl; intro w' hS; have s3 := Lib.hid hS; unfold Oper.wp; clear hS; go_simp; refine (toMap_any g _).mono ?_; rintro e w1 ⟨rfl, hb⟩; exact ⟨rfl, ⟨s3.out.1.below hb s3.out.1.lt, s3.out.2.1.below hb s3.out.2.1.lt, s3.out.2.2.1.below hb s3.out.2.2.1.lt, s3.out.2.2.2.trans (hb.mono s3.out.2.2.2.size)⟩, hb⟩)
      · (with_reducible refine Fix.of ?_ ?_; rfl; intro w' hS; have s3 := Lib.hid hS; unfold Oper.wp; clear hS; go_simp; refine (ImplRenumber_any f g _).mono ?_; rintro e w1 ⟨rfl, hb⟩; exact ⟨rfl, ⟨s3.out.1.below hb s3.out.1.lt, s3.out.2.1.below hb s3.out.2.1.lt, s3.out.2.2.1.below hb s3.out.2.2.1.lt, s3.out.2.2.2.trans (hb.mono s3.out.2.2.2.size)⟩, hb⟩)
      · (with_reducible refine Fix.of ?_ ?_; rfl; intro w' hS; have s0 := hS.1; have s1 := hS.2.1; have s2 := hS.2.2.1; unfold Oper.wp; go_simp; first | done | exact Below.refl _ _ | exact ⟨hS, Below.refl _ _⟩ | exact ⟨hS.2.2.2, Below.refl _ _⟩ | exact ⟨hS.1, hS.2.1, hS.2.2.1, Below.refl _ _⟩ | exact ⟨⟨hS.1, hS.2.1, hS.2.2.1⟩, Below.refl _ _⟩ | exact ⟨hS.1, hS.2.1, hS.2.2.1, hS.2.2.2, Below.refl _ _⟩)
      · (with_reducible refine Fix.of ?_ ?_; rfl; intro w' hS; have s0 := hS.1; have s1 := hS.2.1; have s2 := hS.2.2.1; unfold Oper.wp; go_simp; first | done | exact Below.refl _ _ | exact ⟨hS, Below.refl _ _⟩ | exact ⟨hS.2.2.2, Below.refl _ _⟩ | exact ⟨hS.1, hS.2.1, hS.2.2.1, Below.refl _ _⟩ | exact ⟨⟨hS.1, hS.2.1, hS.2.2.1⟩, Below.refl _ _⟩ | exact ⟨hS.1, hS.2.1, hS.2.2.1, hS.2.2.2, Below.refl _ _⟩)
      · (with_reducible refine Fix.of ?_ ?_; rfl; intro w' hS; have s0 := hS.1; have s1 := hS.2.1; have s2 := hS.2.2.1; unfold Oper.wp; go_simp; first | done | exact Below.refl _ _ | exact ⟨hS, Below.refl _ _⟩ | exact ⟨hS.2.2.2, Below.refl _ _⟩ | exact ⟨hS.1, hS.2.1, hS.2.2.1, Below.refl _ _⟩ | exact ⟨⟨hS.1, hS.2.1, hS.2.2.1⟩, Below.refl _ _⟩ | exact ⟨hS.1, hS.2.1, hS.2.2.1, hS.2.2.2, Below.refl _ _⟩)
      · (with_reducible refine Fix.of ?_ ?_; rfl; intro w' hS; have s0 := hS.1; have s1 := hS.2.1; have s2 := hS.2.2.1; unfold Oper.wp; go_simp; first | done | exact Below.refl _ _ | exact ⟨hS, Below.refl _ _⟩ | exact ⟨hS.2.2.2, Below.refl _ _⟩ | exact ⟨hS.1, hS.2.1, hS.2.2.1, Below.refl _ _⟩ | exact ⟨⟨hS.1, hS.2.1, hS.2.2.1⟩, Below.refl _ _⟩ | exact ⟨hS.1, hS.2.1, hS.2.2.1, hS.2.2.2, Below.refl _ _⟩)
    case hal =>
      intro q
      refine ⟨rfl, fun w' hS => ?_⟩
      have s3 := Lib.hid hS
      clear hS
      unfold Oper.wp
      go_simp
      exact ⟨rfl, s3.out.1.alloc _, s3.out.2.1.alloc _, s3.out.2.2.1.alloc _, s3.out.2.2.2.alloc s3.out.2.2.2.size _⟩
    case hst =>
      intro q
      refine ⟨rfl, fun w' hS hq hB => ?_⟩
      have s3 := Lib.hid hS
      clear hS
      have d := hB.six
      have z := hB.fr6
      unfold Oper.wp
      go_simp
      have hq2 := hq
      try simp only [World.size_alloc] at hq2
      exact ⟨⟨s3.out.1.st6 (by first | omega | (have := hlt0; omega)) _, s3.out.2.1.st6 (by first | omega | (have := hlt1; omega)) _, s3.out.2.2.1.st6 (by first | omega | (have := hlt2; omega)) _, below_st6 s3.out.2.2.2 (by first | omega | (have := s3.out.2.2.2.size; omega)) _⟩, hB.st6 _, below_st6 (Below.refl _ _) (by first | omega | (simp <;> omega)) _⟩
    case hQ =>
      intro q w' hS hq hB hbel
      have s1 : Six w' p1 (rnR f g) := hS.2.2.1
      have s2 : Six w' q (rnR f g) := hB.six
      have Hbel := Lib.hid hS.2.2.2
      clear hq hB hS hbel HS0 hlt0 hlt1 hlt2
      go_wp2_with fail
      refine (eqMap_self (rnR f g) _).mono ?_
      rintro e w2 ⟨rfl, hb⟩
      go_wp2
      go_ret
      exact ⟨rfl, Hbel.out.trans (hb.mono Hbel.out.size)⟩
end Go.Proofs.Ytomhmodpiddedaa
