/- The walk of the statement on CompareMaps; no conditions. -/
import Derived.Test.YtfadakdalijjfaaC11
namespace Go.Proofs.Ytfadakdalijjfaa
open Go.RowKit
set_option maxRecDepth 100000

theorem lawCompare (f g : M) (w : World) :
    Calls Try.prog 14 #[.agg (mc f), .agg (mc g)] w fun e w' => e = .returned (.bool true) ∧ Below w.heap.size w w' := by
  have hx : (cmpR f g != cmpR f g) = false := by simp
  have hy : (cmpC f g != cmpC f g) = false := by simp
  go_enter Try.func14, Try.ntmps14
  go_wp2_with fail
  obtain ⟨x, hX⟩ : ∃ x, x = cmpR f g := ⟨_, rfl⟩
  obtain ⟨y, hY⟩ : ∃ y, y = cmpC f g := ⟨_, rfl⟩
  rw [← hX] at hx
  rw [← hY] at hy
  have HC : Hid (∀ w', Calls Try.prog 41 #[.agg (mc f), .agg (mc g)] w' (fun e w1 => e = .returned (.tuple #[I x, I y]) ∧ Below w'.heap.size w' w1)) := by
    intro w'; rw [hX, hY]; exact SpecCompareMaps_any f g w'
  have HD : Hid (∀ w', Calls Try.prog 42 #[.agg (mc f), .agg (mc g)] w' (fun e w1 => e = .returned (.tuple #[I x, I y]) ∧ Below w'.heap.size w' w1)) := by
    intro w'; rw [hX, hY]; exact ImplCompareMaps_any f g w'
  clear hX hY
  refine wp_region_same [] rfl (by kernel_rfl) (by kernel_rfl) (by kernel_rfl) (fun w' => Six w' w.heap.size f ∧ Six w' (w.heap.size + 1) g ∧ Below w.heap.size w w') _
    [.agg (mc f), .agg (mc f), .agg (mc g), .agg (mc g), .tuple #[I x, I y], .tuple #[I x, I y], I x, I y, I x, I y]
    (by simp only [putAll, List.setIfInBounds_toArray, List.set_cons_succ, List.set_cons_zero]; rfl) ?hS ?hop ?hQ
  case hS => exact ⟨Six.alloc (Blk.six (Blk.new w _ _)) _, Blk.six (Blk.new' _ _ _ (by simp)), by (repeat (first | with_reducible assumption | with_reducible exact Below.refl _ _ | with_reducible refine Below.setCell ?_ (by first | omega | (simp <;> omega)) _ | with_reducible refine Below.alloc ?_ (by first | omega | (simp <;> omega)) _ | with_reducible refine Below.drew ?_ | with_reducible refine Below.drewN ?_ _))⟩
  case hop =>
    refine ⟨.inr ?_, .inr ?_, .inr ?_, .inr ?_, .inr ?_, .inr ?_, .inr ?_, .inr ?_, .inr ?_, .inr ?_, trivial⟩
    · (with_reducible refine Fix.of ?_ ?_; rfl; intro w' hS; have s0 := hS.1; have s1 := hS.2.1; unfold Oper.wp; go_simp; first | done | exact Below.refl _ _ | exact ⟨hS, Below.refl _ _⟩ | exact ⟨⟨hS.1, hS.2.1⟩, Below.refl _ _⟩ | exact ⟨hS.1, hS.2.1, hS.2.2, Below.refl _ _⟩)
    · (with_reducible refine Fix.of ?_ ?_; rfl; intro w' hS; have s3 := Lib.hid hS; unfold Oper.wp; clear hS; go_simp; refine (toMap_any f _).mono ?_; rintro e w1 ⟨rfl, hb⟩; exact ⟨rfl, ⟨s3.out.1.below hb s3.out.1.lt, s3.out.2.1.below hb s3.out.2.1.lt, s3.out.2.2.trans (hb.mono s3.out.2.2.size)⟩, hb⟩)
    · (with_reducible refine Fix.of ?_ ?_; rfl; intro w' hS; have s0 := hS.1; have s1 := hS.2.1; unfold Oper.wp; go_simp; first | done | exact Below.refl _ _ | exact ⟨hS, Below.refl _ _⟩ | exact ⟨⟨hS.1, hS.2.1⟩, Below.refl _ _⟩ | exact ⟨hS.1, hS.2.1, hS.2.2, Below.refl _ _⟩)
    · (with_reducible refine Fix.of ?_ ?_; rfl; intro w' hS; have s3 := Lib.hid hS; unfold Oper.wp; clear hS; go_simp; refine (toMap_any g _).mono ?_; rintro e w1 ⟨rfl, hb⟩; exact ⟨rfl, ⟨s3.out.1.below hb s3.out.1.lt, s3.out.2.1.below hb s3.out.2.1.lt, s3.out.2.2.trans (hb.mono s3.out.2.2.size)⟩, hb⟩)
    · (with_reducible refine Fix.of ?_ ?_; rfl; intro w' hS; have s3 := Lib.hid hS; unfold Oper.wp; clear hS; go_simp; refine (HC.out _).mono ?_; rintro e w1 ⟨rfl, hb⟩; exact ⟨rfl, ⟨s3.out.1.below hb s3.out.1.lt, s3.out.2.1.below hb s3.out.2.1.lt, s3.out.2.2.trans (hb.mono s3.out.2.2.size)⟩, hb⟩)
    · (with_reducible refine Fix.of ?_ ?_; rfl; intro w' hS; have s0 := hS.1; have s1 := hS.2.1; unfold Oper.wp; go_simp; first | done | exact Below.refl _ _ | exact ⟨hS, Below.refl _ _⟩ | exact ⟨⟨hS.1, hS.2.1⟩, Below.refl _ _⟩ | exact ⟨hS.1, hS.2.1, hS.2.2, Below.refl _ _⟩)
    · (with_reducible refine Fix.of ?_ ?_; rfl; intro w' hS; have s0 := hS.1; have s1 := hS.2.1; unfold Oper.wp; go_simp; first | done | exact Below.refl _ _ | exact ⟨hS, Below.refl _ _⟩ | exact ⟨⟨hS.1, hS.2.1⟩, Below.refl _ _⟩ | exact ⟨hS.1, hS.2.1, hS.2.2, Below.refl _ _⟩)
    · (with_reducible refine Fix.of ?_ ?_; rfl; intro w' hS; have s0 := hS.1; have s1 := hS.2.1; unfold Oper.wp; go_simp; first | done | exact Below.refl _ _ | exact ⟨hS, Below.refl _ _⟩ | exact ⟨⟨hS.1, hS.2.1⟩, Below.refl _ _⟩ | exact ⟨hS.1, hS.2.1, hS.2.2, Below.refl _ _⟩)
    · (with_reducible refine Fix.of ?_ ?_; rfl; intro w' hS; have s0 := hS.1; have s1 := hS.2.1; unfold Oper.wp; go_simp; first | done | exact Below.refl _ _ | exact ⟨hS, Below.refl _ _⟩ | exact ⟨⟨hS.1, hS.2.1⟩, Below.refl _ _⟩ | exact ⟨hS.1, hS.2.1, hS.2.2, Below.refl _ _⟩)
    · (with_reducible refine Fix.of ?_ ?_; rfl; intro w' hS; have s0 := hS.1; have s1 := hS.2.1; unfold Oper.wp; go_simp; first | done | exact Below.refl _ _ | exact ⟨hS, Below.refl _ _⟩ | exact ⟨⟨hS.1, hS.2.1⟩, Below.refl _ _⟩ | exact ⟨hS.1, hS.2.1, hS.2.2, Below.refl _ _⟩)
  case hQ =>
    intro w' hS hbel
    have HS : Hid (Six w'.drew w.heap.size f ∧ Six w'.drew (w.heap.size + 1) g ∧ Below w.heap.size w w'.drew) := ⟨hS.1, hS.2.1, hS.2.2.drew⟩
    clear hS hbel
    go_wp2_with fail
    refine wp_region_same [] rfl (by kernel_rfl) (by kernel_rfl) (by kernel_rfl) (fun w' => Six w' w.heap.size f ∧ Six w' (w.heap.size + 1) g ∧ Below w.heap.size w w') _
      [.agg (mc f), .agg (mc f), .agg (mc g), .agg (mc g), .tuple #[I x, I y], .tuple #[I x, I y], I x, I y, I x, I y]
      (by simp only [putAll, List.setIfInBounds_toArray, List.set_cons_succ, List.set_cons_zero]; rfl) ?hS ?hop ?hQ
    case hS => exact HS.out
    case hop =>
      refine ⟨.inr ?_, .inr ?_, .inr ?_, .inr ?_, .inr ?_, .inr ?_, .inr ?_, .inr ?_, .inr ?_, .inr ?_, trivial⟩
      · (with_reducible refine Fix.of ?_ ?_; rfl; intro w' hS; have s0 := hS.1; have s1 := hS.2.1; unfold Oper.wp; go_simp; first | done | exact Below.refl _ _ | exact ⟨hS, Below.refl _ _⟩ | exact ⟨⟨hS.1, hS.2.1⟩, Below.refl _ _⟩ | exact ⟨hS.1, hS.2.1, hS.2.2, Below.refl _ _⟩)
      · (with_reducible refine Fix.of ?_ ?_; rfl; intro w' hS; have s3 := Lib.hid hS; unfold Oper.wp; clear hS; go_simp; refine (toMap_any f _).mono ?_; rintro e w1 ⟨rfl, hb⟩; exact ⟨rfl, ⟨s3.out.1.below hb s3.out.1.lt, s3.out.2.1.below hb s3.out.2.1.lt, s3.out.2.2.trans (hb.mono s3.out.2.2.size)⟩, hb⟩)
      · (with_reducible refine Fix.of ?_ ?_; rfl; intro w' hS; have s0 := hS.1; have s1 := hS.2.1; unfold Oper.wp; go_simp; first | done | exact Below.refl _ _ | exact ⟨hS, Below.refl _ _⟩ | exact ⟨⟨hS.1, hS.2.1⟩, Below.refl _ _⟩ | exact ⟨hS.1, hS.2.1, hS.2.2, Below.refl _ _⟩)
      · (with_reducible refine Fix.of ?_ ?_; rfl; intro w' hS; have s3 := Lib.hid hS; unfold Oper.wp; clear hS; go_simp; refine (toMap_any g _).mono ?_; rintro e w1 ⟨rfl, hb⟩; exact ⟨rfl, ⟨s3.out.1.below hb s3.out.1.lt, s3.out.2.1.below hb s3.out.2.1.lt, s3.out.2.2.trans (hb.mono s3.out.2.2.size)⟩, hb⟩)
      · (with_reducible refine Fix.of ?_ ?_; rfl; intro w' hS; have s3 := Lib.hid hS; unfold Oper.wp; clear hS; go_simp; refine (HD.out _).mono ?_; rintro e w1 ⟨rfl, hb⟩; exact ⟨rfl, ⟨s3.out.1.below hb s3.out.1.lt, s3.out.2.1.below hb s3.out.2.1.lt, s3.out.2.2.trans (hb.mono s3.out.2.2.size)⟩, hb⟩)
      · (with_reducible refine Fix.of ?_ ?_; rfl; intro w' hS; have s0 := hS.1; have s1 := hS.2.1; unfold Oper.wp; go_simp; first | done | exact Below.refl _ _ | exact ⟨hS, Below.refl _ _⟩ | exact ⟨⟨hS.1, hS.2.1⟩, Below.refl _ _⟩ | exact ⟨hS.1, hS.2.1, hS.2.2, Below.refl _ _⟩)
      · (with_reducible refine Fix.of ?_ ?_; rfl; intro w' hS; have s0 := hS.1; have s1 := hS.2.1; unfold Oper.wp; go_simp; first | done | exact Below.refl _ _ | exact ⟨hS, Below.refl _ _⟩ | exact ⟨⟨hS.1, hS.2.1⟩, Below.refl _ _⟩ | exact ⟨hS.1, hS.2.1, hS.2.2, Below.refl _ _⟩)
      · (with_reducible refine Fix.of ?_ ?_; rfl; intro w' hS; have s0 := hS.1; have s1 := hS.2.1; unfold Oper.wp; go_simp; first | done | exact Below.refl _ _ | exact ⟨hS, Below.refl _ _⟩ | exact ⟨⟨hS.1, hS.2.1⟩, Below.refl _ _⟩ | exact ⟨hS.1, hS.2.1, hS.2.2, Below.refl _ _⟩)
      · (with_reducible refine Fix.of ?_ ?_; rfl; intro w' hS; have s0 := hS.1; have s1 := hS.2.1; unfold Oper.wp; go_simp; first | done | exact Below.refl _ _ | exact ⟨hS, Below.refl _ _⟩ | exact ⟨⟨hS.1, hS.2.1⟩, Below.refl _ _⟩ | exact ⟨hS.1, hS.2.1, hS.2.2, Below.refl _ _⟩)
      · (with_reducible refine Fix.of ?_ ?_; rfl; intro w' hS; have s0 := hS.1; have s1 := hS.2.1; unfold Oper.wp; go_simp; first | done | exact Below.refl _ _ | exact ⟨hS, Below.refl _ _⟩ | exact ⟨⟨hS.1, hS.2.1⟩, Below.refl _ _⟩ | exact ⟨hS.1, hS.2.1, hS.2.2, Below.refl _ _⟩)
    case hQ =>
      intro w2 hS hbel
      have HS2 := Lib.hid hS.2.2
      clear hS hbel HS
      go_wp2
      go_ret
      exact ⟨rfl, HS2.out⟩

end Go.Proofs.Ytfadakdalijjfaa
