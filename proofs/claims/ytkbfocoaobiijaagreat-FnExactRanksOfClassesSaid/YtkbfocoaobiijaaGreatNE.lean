/- Contracts of the predicates on the elements of a monoid and of elementsThat; the monoid stands as the theorems say. Contracts of elementsThat and of the program's lists of elements that are such; the lists are as each theorem states. Contracts of CentreOf, IdempotentsOf, SideZeros, ZeroOf, IsCommutative and IsRegularIn of the program; the lists are as each theorem states. Contracts of IsCommutative and IsRegularIn of the program; the lists are as each theorem states. -/
import Derived.Test.YtkbfocoaobiijaaGreatND
import Derived.Test.YtkbfocoaobiijaaGreatKA
import Derived.Test.YtkbfocoaobiijaaGreatC3
namespace Go.Proofs.YtkbfocoaobiijaaGreat
open Go.RowKit
set_option maxRecDepth 100000
set_option linter.unusedSimpArgs false

/-- the place of a product of two elements -/
def pc (E : List M) (i k : Nat) : Nat := ix E (mul (gm E i) (gm E k))
theorem pc_lt {n : Int} {E : List M} (hm : Mnd n E) {i k : Nat} (hi : i < E.length) (hk : k < E.length) : pc E i k < E.length := hm.ix_mul hi hk
theorem gm_pc {n : Int} {E : List M} (hm : Mnd n E) {i k : Nat} (hi : i < E.length) (hk : k < E.length) : gm E (pc E i k) = mul (gm E i) (gm E k) := gm_ix (hm.mulE _ (gm_mem hi) _ (gm_mem hk))
theorem prod_any {n : Int} {B g : Nat} {E : List M} {us : List (List Int)} (i k : Nat) (w : World) (h : MonAt n B g E us w) (hE : E.length ≤ 300) (hm : Mnd n E) (hi : i < E.length) (hk : k < E.length) :
    Calls Tryz.prog 212 #[.pointer (some ⟨g, 0, none⟩), I i, I k] w fun e w' => e = .returned (I (pc E i k)) ∧ Below w.heap.size w w' := product_any i k w h hE hm hi hk

theorem beqc (x y : Nat) : ((x : Int) == (y : Int)) = (x == y) := by rw [Bool.eq_iff_iff, beq_iff_eq, beq_iff_eq]; omega

/-! ### central elements -/
theorem central1_any {n : Int} {B g : Nat} {E : List M} {us : List (List Int)} (b1 b2 i k : Nat) (w : World) (h : MonAt n B g E us w) (hE : E.length ≤ 300) (hm : Mnd n E) (hi : i < E.length) (hk : k < E.length)
    (c1 : w.cell? ⟨b1, 0, none⟩ = some (.pointer (some ⟨g, 0, none⟩))) (c2 : w.cell? ⟨b2, 0, none⟩ = some (I i)) :
    Calls Tryz.prog 213 #[I k, .pointer (some ⟨b1, 0, none⟩), .pointer (some ⟨b2, 0, none⟩)] w fun e w' => e = .returned (.bool (pc E i k == pc E k i)) ∧ Below w.heap.size w w' := by
  have H := Lib.hid h
  have C1 := Lib.hid c1
  have C2 := Lib.hid c2
  have l1 := World.block_lt_of_cell? w ⟨b1, 0, none⟩ c1
  have l2 := World.block_lt_of_cell? w ⟨b2, 0, none⟩ c2
  have HP := Lib.hid (fun w' (hS : Below w.heap.size w w') => prod_any i k w' (H.out.below hS (Nat.le_refl _)) hE hm hi hk)
  have HQ := Lib.hid (fun w' (hS : Below w.heap.size w w') => prod_any k i w' (H.out.below hS (Nat.le_refl _)) hE hm hk hi)
  obtain ⟨x, hx⟩ : ∃ x, x = pc E i k := ⟨_, rfl⟩
  obtain ⟨y, hy⟩ : ∃ y, y = pc E k i := ⟨_, rfl⟩
  rw [← hx] at HP ⊢
  rw [← hy] at HQ ⊢
  clear h c1 c2 hx hy H
  go_enter Tryz.func213, Tryz.ntmps213
  go_wp2_with fail
  refine wp_region_same [] rfl (by kernel_rfl) (by kernel_rfl) (by kernel_rfl) (fun w' => Below w.heap.size w w') _
    [.pointer (some ⟨g, 0, none⟩), I i, I k, I x, .pointer (some ⟨g, 0, none⟩), I k, I i, I y, .bool ((x : Int) == (y : Int)), .bool ((x : Int) == (y : Int))]
    (by simp only [putAll, List.setIfInBounds_toArray, List.set_cons_succ, List.set_cons_zero]; rfl) (Below.refl _ _).drew ?hop ?hQ
  case hop =>
    refine FixBL.toL (fun w' w'' hS hb => hS.trans (hb.mono hS.size)) _ _ ?_
    refine ⟨.inr ?_, .inr ?_, .inr ?_, .inr ?_, .inr ?_, .inr ?_, .inr ?_, .inr ?_, .inr ?_, .inr ?_, trivial⟩
    · (with_reducible refine FixB.of ?_ ?_; rfl; intro w' hS; have s0 := (hS.cell (p := ⟨b1, 0, none⟩) l1).trans C1.out; have s1 := (hS.cell (p := ⟨b2, 0, none⟩) l2).trans C2.out; clear hS; unfold Oper.wp; go_simp; first | done | exact Below.refl _ _)
    · (with_reducible refine FixB.of ?_ ?_; rfl; intro w' hS; have s0 := (hS.cell (p := ⟨b1, 0, none⟩) l1).trans C1.out; have s1 := (hS.cell (p := ⟨b2, 0, none⟩) l2).trans C2.out; clear hS; unfold Oper.wp; go_simp; first | done | exact Below.refl _ _)
    · (with_reducible refine FixB.of ?_ ?_; rfl; intro w' hS; have s0 := (hS.cell (p := ⟨b1, 0, none⟩) l1).trans C1.out; have s1 := (hS.cell (p := ⟨b2, 0, none⟩) l2).trans C2.out; clear hS; unfold Oper.wp; go_simp; first | done | exact Below.refl _ _)
    · (with_reducible refine FixB.of ?_ ?_; rfl; intro w' hS; have s3 := Lib.hid hS; unfold Oper.wp; clear hS; go_simp; refine (HP.out _ s3.out).mono ?_; rintro e w1 ⟨rfl, hb⟩; exact ⟨rfl, hb⟩)
    · (with_reducible refine FixB.of ?_ ?_; rfl; intro w' hS; have s0 := (hS.cell (p := ⟨b1, 0, none⟩) l1).trans C1.out; have s1 := (hS.cell (p := ⟨b2, 0, none⟩) l2).trans C2.out; clear hS; unfold Oper.wp; go_simp; first | done | exact Below.refl _ _)
    · (with_reducible refine FixB.of ?_ ?_; rfl; intro w' hS; have s0 := (hS.cell (p := ⟨b1, 0, none⟩) l1).trans C1.out; have s1 := (hS.cell (p := ⟨b2, 0, none⟩) l2).trans C2.out; clear hS; unfold Oper.wp; go_simp; first | done | exact Below.refl _ _)
    · (with_reducible refine FixB.of ?_ ?_; rfl; intro w' hS; have s0 := (hS.cell (p := ⟨b1, 0, none⟩) l1).trans C1.out; have s1 := (hS.cell (p := ⟨b2, 0, none⟩) l2).trans C2.out; clear hS; unfold Oper.wp; go_simp; first | done | exact Below.refl _ _)
    · (with_reducible refine FixB.of ?_ ?_; rfl; intro w' hS; have s3 := Lib.hid hS; unfold Oper.wp; clear hS; go_simp; refine (HQ.out _ s3.out).mono ?_; rintro e w1 ⟨rfl, hb⟩; exact ⟨rfl, hb⟩)
    · (with_reducible refine FixB.of ?_ ?_; rfl; intro w' hS; have s0 := (hS.cell (p := ⟨b1, 0, none⟩) l1).trans C1.out; have s1 := (hS.cell (p := ⟨b2, 0, none⟩) l2).trans C2.out; clear hS; unfold Oper.wp; go_simp; first | done | exact Below.refl _ _)
    · (with_reducible refine FixB.of ?_ ?_; rfl; intro w' hS; have s0 := (hS.cell (p := ⟨b1, 0, none⟩) l1).trans C1.out; have s1 := (hS.cell (p := ⟨b2, 0, none⟩) l2).trans C2.out; clear hS; unfold Oper.wp; go_simp; first | done | exact Below.refl _ _)
  case hQ =>
  intro wc hS _
  have Hb := Lib.hid hS
  clear hS
  go_wp2
  go_ret
  exact ⟨ret_bool (beqc x y), Hb.out⟩
def centB (E : List M) (i : Nat) : Bool := (List.range E.length).all fun k => pc E i k == pc E k i
theorem isCentral_any {n : Int} {B g : Nat} {E : List M} {us : List (List Int)} (i : Nat) (w : World) (h : MonAt n B g E us w) (hE : E.length ≤ 300) (hm : Mnd n E) (hi : i < E.length) :
    Calls Tryz.prog 128 #[.pointer (some ⟨g, 0, none⟩), I i] w fun e w' => e = .returned (.bool (centB E i)) ∧ Below w.heap.size w w' := by
  obtain ⟨wb, hwb⟩ : ∃ wb, wb = (w.alloc (.cells #[.pointer (some ⟨g, 0, none⟩)] 92)).alloc (.cells #[I i] 3) := ⟨_, rfl⟩
  have hbb : Below w.heap.size w wb := by rw [hwb]; exact ((Below.refl _ _).alloc (Nat.le_refl _) _).alloc (by simp) _
  have c1 : wb.cell? ⟨w.heap.size, 0, none⟩ = some (.pointer (some ⟨g, 0, none⟩)) := by rw [hwb]; exact (Blk.alloc (Blk.new w _ _) _).cell 0
  have c2 : wb.cell? ⟨w.heap.size + 1, 0, none⟩ = some (I i) := by rw [hwb]; exact (Blk.new' _ _ _ (by simp)).cell 0
  have l1 := World.block_lt_of_cell? wb ⟨w.heap.size, 0, none⟩ c1
  have l2 := World.block_lt_of_cell? wb ⟨w.heap.size + 1, 0, none⟩ c2
  have HP : Hid (PredC 213 #[.pointer (some ⟨w.heap.size, 0, none⟩), .pointer (some ⟨w.heap.size + 1, 0, none⟩)] E.length (fun k => pc E i k == pc E k i) wb) :=
    ⟨enters_of Tryz.func213 (by kernel_rfl) rfl, fun w' hb' k hk => central1_any _ _ i k w' ((h.below hbb (Nat.le_refl _)).below hb' (Nat.le_refl _)) hE hm hi hk ((hb'.cell l1).trans c1) ((hb'.cell l2).trans c2)⟩
  have HM := Lib.hid (h.below hbb (Nat.le_refl _))
  have Hbb := Lib.hid hbb
  have Hwb := Lib.hid hwb
  clear h hbb hwb c2 l1 l2
  go_enter Tryz.func128, Tryz.ntmps128
  go_wp2_with fail
  rw [← Hwb.out]
  refine (all_any _ _ _ wb HM.out hE (by omega) HP.out).mono ?_
  rintro e w1 ⟨rfl, hb1⟩
  have Hb := Lib.hid (Hbb.out.trans (hb1.mono Hbb.out.size))
  clear hb1
  go_wp2
  go_ret
  exact ⟨rfl, Hb.out⟩

/-! ### zeros of one side -/
theorem side1_any {n : Int} {B g : Nat} {E : List M} {us : List (List Int)} (b0 b1 b2 z i : Nat) (r : Bool) (w : World) (h : MonAt n B g E us w) (hE : E.length ≤ 300) (hm : Mnd n E) (hz : z < E.length) (hi : i < E.length)
    (c0 : w.cell? ⟨b0, 0, none⟩ = some (.bool r)) (c1 : w.cell? ⟨b1, 0, none⟩ = some (.pointer (some ⟨g, 0, none⟩))) (c2 : w.cell? ⟨b2, 0, none⟩ = some (I z)) :
    Calls Tryz.prog 211 #[I i, .pointer (some ⟨b0, 0, none⟩), .pointer (some ⟨b1, 0, none⟩), .pointer (some ⟨b2, 0, none⟩)] w fun e w' => e = .returned (.bool ((if r then pc E i z else pc E z i) == z)) ∧ Below w.heap.size w w' := by
  have H := Lib.hid h
  have C1 := Lib.hid c1
  have C2 := Lib.hid c2
  have l1 := World.block_lt_of_cell? w ⟨b1, 0, none⟩ c1
  have l2 := World.block_lt_of_cell? w ⟨b2, 0, none⟩ c2
  have HP := Lib.hid (fun w' (hS : Below w.heap.size w w') => prod_any i z w' (H.out.below hS (Nat.le_refl _)) hE hm hi hz)
  have HQ := Lib.hid (fun w' (hS : Below w.heap.size w w') => prod_any z i w' (H.out.below hS (Nat.le_refl _)) hE hm hz hi)
  obtain ⟨x, hx⟩ : ∃ x, x = pc E i z := ⟨_, rfl⟩
  obtain ⟨y, hy⟩ : ∃ y, y = pc E z i := ⟨_, rfl⟩
  rw [← hx] at HP ⊢
  rw [← hy] at HQ ⊢
  clear h c1 c2 hx hy H
  cases r
  · go_enter Tryz.func211, Tryz.ntmps211
    go_wp2_with fail
    refine wp_region_same [] rfl (by kernel_rfl) (by kernel_rfl) (by kernel_rfl) (fun w' => Below w.heap.size w w') _
      [.pointer (some ⟨g, 0, none⟩), I z, I i, I y, I z, .bool ((y : Int) == (z : Int)), .bool ((y : Int) == (z : Int))]
      (by simp only [putAll, List.setIfInBounds_toArray, List.set_cons_succ, List.set_cons_zero]; rfl) (Below.refl _ _).drew ?hop ?hQ
    case hop =>
      refine FixBL.toL (fun w' w'' hS hb => hS.trans (hb.mono hS.size)) _ _ ?_
      refine ⟨.inr ?_, .inr ?_, .inr ?_, .inr ?_, .inr ?_, .inr ?_, .inr ?_, trivial⟩
      · (with_reducible refine FixB.of ?_ ?_; rfl; intro w' hS; have s0 := (hS.cell (p := ⟨b1, 0, none⟩) l1).trans C1.out; have s1 := (hS.cell (p := ⟨b2, 0, none⟩) l2).trans C2.out; clear hS; unfold Oper.wp; go_simp; first | done | exact Below.refl _ _)
      · (with_reducible refine FixB.of ?_ ?_; rfl; intro w' hS; have s0 := (hS.cell (p := ⟨b1, 0, none⟩) l1).trans C1.out; have s1 := (hS.cell (p := ⟨b2, 0, none⟩) l2).trans C2.out; clear hS; unfold Oper.wp; go_simp; first | done | exact Below.refl _ _)
      · (with_reducible refine FixB.of ?_ ?_; rfl; intro w' hS; have s0 := (hS.cell (p := ⟨b1, 0, none⟩) l1).trans C1.out; have s1 := (hS.cell (p := ⟨b2, 0, none⟩) l2).trans C2.out; clear hS; unfold Oper.wp; go_simp; first | done | exact Below.refl _ _)
      · (with_reducible refine FixB.of ?_ ?_; rfl; intro w' hS; have s3 := Lib.hid hS; unfold Oper.wp; clear hS; go_simp; refine (HQ.out _ s3.out).mono ?_; rintro e w1 ⟨rfl, hb⟩; exact ⟨rfl, hb⟩)
      · (with_reducible refine FixB.of ?_ ?_; rfl; intro w' hS; have s0 := (hS.cell (p := ⟨b1, 0, none⟩) l1).trans C1.out; have s1 := (hS.cell (p := ⟨b2, 0, none⟩) l2).trans C2.out; clear hS; unfold Oper.wp; go_simp; first | done | exact Below.refl _ _)
      · (with_reducible refine FixB.of ?_ ?_; rfl; intro w' hS; have s0 := (hS.cell (p := ⟨b1, 0, none⟩) l1).trans C1.out; have s1 := (hS.cell (p := ⟨b2, 0, none⟩) l2).trans C2.out; clear hS; unfold Oper.wp; go_simp; first | done | exact Below.refl _ _)
      · (with_reducible refine FixB.of ?_ ?_; rfl; intro w' hS; have s0 := (hS.cell (p := ⟨b1, 0, none⟩) l1).trans C1.out; have s1 := (hS.cell (p := ⟨b2, 0, none⟩) l2).trans C2.out; clear hS; unfold Oper.wp; go_simp; first | done | exact Below.refl _ _)
    case hQ =>
    intro wc hS _
    have Hb := Lib.hid hS
    clear hS
    go_wp2
    go_ret
    exact ⟨ret_bool (beqc y z), Hb.out⟩
  · go_enter Tryz.func211, Tryz.ntmps211
    go_wp2_with fail
    refine wp_region_same [] rfl (by kernel_rfl) (by kernel_rfl) (by kernel_rfl) (fun w' => Below w.heap.size w w') _
      [.pointer (some ⟨g, 0, none⟩), I i, I z, I x, I z, .bool ((x : Int) == (z : Int)), .bool ((x : Int) == (z : Int))]
      (by simp only [putAll, List.setIfInBounds_toArray, List.set_cons_succ, List.set_cons_zero]; rfl) (Below.refl _ _).drew ?hop ?hQ
    case hop =>
      refine FixBL.toL (fun w' w'' hS hb => hS.trans (hb.mono hS.size)) _ _ ?_
      refine ⟨.inr ?_, .inr ?_, .inr ?_, .inr ?_, .inr ?_, .inr ?_, .inr ?_, trivial⟩
      · (with_reducible refine FixB.of ?_ ?_; rfl; intro w' hS; have s0 := (hS.cell (p := ⟨b1, 0, none⟩) l1).trans C1.out; have s1 := (hS.cell (p := ⟨b2, 0, none⟩) l2).trans C2.out; clear hS; unfold Oper.wp; go_simp; first | done | exact Below.refl _ _)
      · (with_reducible refine FixB.of ?_ ?_; rfl; intro w' hS; have s0 := (hS.cell (p := ⟨b1, 0, none⟩) l1).trans C1.out; have s1 := (hS.cell (p := ⟨b2, 0, none⟩) l2).trans C2.out; clear hS; unfold Oper.wp; go_simp; first | done | exact Below.refl _ _)
      · (with_reducible refine FixB.of ?_ ?_; rfl; intro w' hS; have s0 := (hS.cell (p := ⟨b1, 0, none⟩) l1).trans C1.out; have s1 := (hS.cell (p := ⟨b2, 0, none⟩) l2).trans C2.out; clear hS; unfold Oper.wp; go_simp; first | done | exact Below.refl _ _)
      · (with_reducible refine FixB.of ?_ ?_; rfl; intro w' hS; have s3 := Lib.hid hS; unfold Oper.wp; clear hS; go_simp; refine (HP.out _ s3.out).mono ?_; rintro e w1 ⟨rfl, hb⟩; exact ⟨rfl, hb⟩)
      · (with_reducible refine FixB.of ?_ ?_; rfl; intro w' hS; have s0 := (hS.cell (p := ⟨b1, 0, none⟩) l1).trans C1.out; have s1 := (hS.cell (p := ⟨b2, 0, none⟩) l2).trans C2.out; clear hS; unfold Oper.wp; go_simp; first | done | exact Below.refl _ _)
      · (with_reducible refine FixB.of ?_ ?_; rfl; intro w' hS; have s0 := (hS.cell (p := ⟨b1, 0, none⟩) l1).trans C1.out; have s1 := (hS.cell (p := ⟨b2, 0, none⟩) l2).trans C2.out; clear hS; unfold Oper.wp; go_simp; first | done | exact Below.refl _ _)
      · (with_reducible refine FixB.of ?_ ?_; rfl; intro w' hS; have s0 := (hS.cell (p := ⟨b1, 0, none⟩) l1).trans C1.out; have s1 := (hS.cell (p := ⟨b2, 0, none⟩) l2).trans C2.out; clear hS; unfold Oper.wp; go_simp; first | done | exact Below.refl _ _)
    case hQ =>
    intro wc hS _
    have Hb := Lib.hid hS
    clear hS
    go_wp2
    go_ret
    exact ⟨ret_bool (beqc x z), Hb.out⟩
def sideP (E : List M) (r : Bool) (z i : Nat) : Bool := (if r then pc E i z else pc E z i) == z
def sideB (E : List M) (r : Bool) (z : Nat) : Bool := (List.range E.length).all (sideP E r z)
theorem isSideZero_any {n : Int} {B g : Nat} {E : List M} {us : List (List Int)} (z : Nat) (r : Bool) (w : World) (h : MonAt n B g E us w) (hE : E.length ≤ 300) (hm : Mnd n E) (hz : z < E.length) :
    Calls Tryz.prog 120 #[.pointer (some ⟨g, 0, none⟩), I z, .bool r] w fun e w' => e = .returned (.bool (sideB E r z)) ∧ Below w.heap.size w w' := by
  obtain ⟨wb, hwb⟩ : ∃ wb, wb = ((w.alloc (.cells #[.pointer (some ⟨g, 0, none⟩)] 92)).alloc (.cells #[I z] 3)).alloc (.cells #[.bool r] 4) := ⟨_, rfl⟩
  have hbb : Below w.heap.size w wb := by rw [hwb]; exact (((Below.refl _ _).alloc (Nat.le_refl _) _).alloc (by simp) _).alloc (by simp; omega) _
  have c1 : wb.cell? ⟨w.heap.size, 0, none⟩ = some (.pointer (some ⟨g, 0, none⟩)) := by rw [hwb]; exact (Blk.alloc (Blk.alloc (Blk.new w _ _) _) _).cell 0
  have c2 : wb.cell? ⟨w.heap.size + 1, 0, none⟩ = some (I z) := by rw [hwb]; exact (Blk.alloc (Blk.new' _ _ _ (by simp)) _).cell 0
  have c3 : wb.cell? ⟨w.heap.size + 1 + 1, 0, none⟩ = some (.bool r) := by rw [hwb]; exact (Blk.new' _ _ _ (by simp)).cell 0
  have l1 := World.block_lt_of_cell? wb ⟨w.heap.size, 0, none⟩ c1
  have l2 := World.block_lt_of_cell? wb ⟨w.heap.size + 1, 0, none⟩ c2
  have l3 := World.block_lt_of_cell? wb ⟨w.heap.size + 1 + 1, 0, none⟩ c3
  have HP : Hid (PredC 211 #[.pointer (some ⟨w.heap.size + 1 + 1, 0, none⟩), .pointer (some ⟨w.heap.size, 0, none⟩), .pointer (some ⟨w.heap.size + 1, 0, none⟩)] E.length (sideP E r z) wb) :=
    ⟨enters_of Tryz.func211 (by kernel_rfl) rfl, fun w' hb' k hk => side1_any _ _ _ z k r w' ((h.below hbb (Nat.le_refl _)).below hb' (Nat.le_refl _)) hE hm hz hk ((hb'.cell l3).trans c3) ((hb'.cell l1).trans c1) ((hb'.cell l2).trans c2)⟩
  have HM := Lib.hid (h.below hbb (Nat.le_refl _))
  have Hbb := Lib.hid hbb
  have Hwb := Lib.hid hwb
  clear h hbb hwb c2 c3 l1 l2 l3
  go_enter Tryz.func120, Tryz.ntmps120
  go_wp2_with fail
  rw [← Hwb.out]
  refine (all_any _ _ _ wb HM.out hE (by omega) HP.out).mono ?_
  rintro e w1 ⟨rfl, hb1⟩
  have Hb := Lib.hid (Hbb.out.trans (hb1.mono Hbb.out.size))
  clear hb1
  go_wp2
  go_ret
  exact ⟨rfl, Hb.out⟩

/-! ### some element is such -/
theorem any1_any (fn : Nat) (caps : Array Value) (b i N : Nat) (p : Nat → Bool) (w : World) (hc : PredC fn caps N p w) (hi : i < N) (c1 : w.cell? ⟨b, 0, none⟩ = some (.func (.func fn) #[] caps)) :
    Calls Tryz.prog 235 #[I i, .pointer (some ⟨b, 0, none⟩)] w fun e w' => e = .returned (.bool (!p i)) ∧ Below w.heap.size w w' := by
  obtain ⟨eg, hc⟩ := hc
  have Hc := Lib.hid (hc w (Below.refl _ _) i hi)
  clear hc
  go_enter Tryz.func235, Tryz.ntmps235
  go_wp2_with fail
  refine Hc.out.mono ?_
  rintro e w1 ⟨rfl, hb1⟩
  go_wp2
  go_ret
  exact ⟨rfl, hb1⟩
theorem any_any {n : Int} {B g : Nat} {E : List M} {us : List (List Int)} (fn : Nat) (caps : Array Value) (p : Nat → Bool) (w : World) (h : MonAt n B g E us w) (hE : E.length ≤ 300) (hpos : 0 < E.length) (hc : PredC fn caps E.length p w) :
    Calls Tryz.prog 167 #[.pointer (some ⟨g, 0, none⟩), .func (.func fn) #[] caps] w fun e w' => e = .returned (.bool ((List.range E.length).any p)) ∧ Below w.heap.size w w' := by
  obtain ⟨wb, hwb⟩ : ∃ wb, wb = w.alloc (.cells #[.func (.func fn) #[] caps] 105) := ⟨_, rfl⟩
  have hbb : Below w.heap.size w wb := by rw [hwb]; exact (Below.refl _ _).alloc (Nat.le_refl _) _
  have c1 : wb.cell? ⟨w.heap.size, 0, none⟩ = some (.func (.func fn) #[] caps) := by rw [hwb]; exact (Blk.new w _ _).cell 0
  have l1 := World.block_lt_of_cell? wb ⟨w.heap.size, 0, none⟩ c1
  have HP : Hid (PredC 235 #[.pointer (some ⟨w.heap.size, 0, none⟩)] E.length (fun i => !p i) wb) :=
    ⟨enters_of Tryz.func235 (by kernel_rfl) rfl, fun w' hb' k hk => any1_any fn caps _ k E.length p w' ((hc.below hbb).below hb') hk ((hb'.cell l1).trans c1)⟩
  have HM := Lib.hid (h.below hbb (Nat.le_refl _))
  have Hbb := Lib.hid hbb
  have Hwb := Lib.hid hwb
  have Hn : Hid ((!(List.range E.length).all fun i => !p i) = (List.range E.length).any p) := by
    show _ = _
    rw [Bool.eq_iff_iff]; simp
  clear h hbb hwb c1 l1 hc
  go_enter Tryz.func167, Tryz.ntmps167
  go_wp2_with fail
  rw [← Hwb.out]
  refine (all_any _ _ _ wb HM.out hE hpos HP.out).mono ?_
  rintro e w1 ⟨rfl, hb1⟩
  have Hb := Lib.hid (Hbb.out.trans (hb1.mono Hbb.out.size))
  clear hb1
  go_wp2
  go_ret
  exact ⟨ret_bool Hn.out, Hb.out⟩

set_option maxRecDepth 100000
set_option linter.unusedSimpArgs false

/-- the elements whose places are such -/
def thatE (p : Nat → Bool) (E : List M) : List M := ((List.range E.length).filter p).map (gm E)
def thatR (p : List M → Nat → Bool) (ms : List M) : List M := thatE (p (elR ms [])) (elR ms [])
theorem range_gm' (E : List M) : (List.range E.length).map (gm E) = E := by
  refine List.ext_getElem (by simp) fun i h1 h2 => ?_
  simp [gm_eq h2]
theorem thatE_filter (P : M → Bool) (E : List M) : thatE (fun i => P (gm E i)) E = E.filter P := by
  unfold thatE
  conv => rhs; rw [← range_gm' E]
  rw [List.filter_map]
  rfl
theorem thatE_congr {p q : Nat → Bool} {E : List M} (h : ∀ i, i < E.length → p i = q i) : thatE p E = thatE q E := by
  unfold thatE
  congr 1
  exact List.filter_congr fun i hi => h i (List.mem_range.1 hi)

theorem et1_any (F : Nat) (caps : Array Value) (b1 b2 g i : Nat) (q : Bool) (w : World) (eg : ∀ args w, (callFunc F args).run Tryz.prog w = .ok (.enter F args) w)
    (hF : Calls Tryz.prog F (#[.pointer (some ⟨g, 0, none⟩), I i] ++ caps) w fun e w2 => e = .returned (.bool q) ∧ Below w.heap.size w w2)
    (c1 : w.cell? ⟨b1, 0, none⟩ = some (.func (.func F) #[] caps)) (c2 : w.cell? ⟨b2, 0, none⟩ = some (.pointer (some ⟨g, 0, none⟩))) :
    Calls Tryz.prog 207 #[I i, .pointer (some ⟨b1, 0, none⟩), .pointer (some ⟨b2, 0, none⟩)] w fun e w' => e = .returned (.bool q) ∧ Below w.heap.size w w' := by
  have HF := Lib.hid hF
  clear hF
  go_enter Tryz.func207, Tryz.ntmps207
  go_wp2_with fail
  refine HF.out.mono ?_
  rintro e w1 ⟨rfl, hb1⟩
  go_wp2
  go_ret
  exact ⟨rfl, hb1⟩

theorem elementsThat_any (A : Option Addr) (n c : Nat) (ms : List M) (F : Nat) (caps : Array Value) (p : List M → Nat → Bool) (w : World) (hx : RdM w w.heap.size A ms) (hn : ms.length = n) (hA : A = none → n = 0 ∧ c = 0) (hb : n < 536870912)
    (eg : ∀ args w, (callFunc F args).run Tryz.prog w = .ok (.enter F args) w)
    (hF : ∀ E ps, El ms [] E ps → ∀ B g us w1, MonAt (gm ms 0).p B g E us w1 → Below w.heap.size w w1 → ∀ i, i < E.length → Calls Tryz.prog F (#[.pointer (some ⟨g, 0, none⟩), I i] ++ caps) w1 fun e w2 => e = .returned (.bool (p E i)) ∧ Below w1.heap.size w1 w2) :
    Calls Tryz.prog 114 #[.slice A n c, .func (.func F) #[] caps] w (RetM (thatR p ms) (elC ms []) w) := by
  obtain ⟨wb, hwb⟩ : ∃ wb, wb = w.alloc (.cells #[.func (.func F) #[] caps] 98) := ⟨_, rfl⟩
  have hbb : Below w.heap.size w wb := by rw [hwb]; exact (Below.refl _ _).alloc (Nat.le_refl _) _
  have c1 : wb.cell? ⟨w.heap.size, 0, none⟩ = some (.func (.func F) #[] caps) := by rw [hwb]; exact (Blk.new w _ _).cell 0
  have l1 := World.block_lt_of_cell? wb ⟨w.heap.size, 0, none⟩ c1
  have Hx := Lib.hid (Rd.more (Rd.below hx hbb) hbb.size)
  have Hn := Lib.hid hn
  have HA := Lib.hid hA
  have Hbb := Lib.hid hbb
  have Hwb := Lib.hid hwb
  have HF := Lib.hid hF
  have C1 := Lib.hid c1
  have Heg := Lib.hid eg
  have hcc := monC_nil ms
  clear hx hn hA hbb hwb hF c1 eg
  by_cases hc : elC ms [] = 0
  · obtain ⟨E, ps, hE⟩ := elC_el hc
    have HE := Lib.hid hE
    have hlen := hE.len
    have hpos := hE.pos
    rw [hc] at hcc
    have Hc := Lib.hid hc
    have Hcc := Lib.hid hcc
    clear hE hc hcc
    go_enter Tryz.func114, Tryz.ntmps114
    go_wp2_with fail
    rw [← Hwb.out]
    refine (monoidOf_any A none n c 0 0 ms [] wb Hx.out Rd.nil_ Hn.out rfl HA.out (fun _ => ⟨rfl, rfl⟩) (by omega)).mono ?_
    rintro e w1 ⟨r, v, rfl, hb1, hr0, hs⟩
    obtain ⟨g, rfl, hM, _⟩ := hs ps HE.out.clo Hcc.out
    rw [← HE.out.eq] at hM
    rw [Hcc.out]
    obtain ⟨w2, hw2⟩ : ∃ w2, w2 = w1.alloc (.cells #[.pointer (some ⟨g, 0, none⟩)] 92) := ⟨_, rfl⟩
    have h12 : Below w1.heap.size w1 w2 := by rw [hw2]; exact (Below.refl _ _).alloc (Nat.le_refl _) _
    have c2 : w2.cell? ⟨w1.heap.size, 0, none⟩ = some (.pointer (some ⟨g, 0, none⟩)) := by rw [hw2]; exact (Blk.new w1 _ _).cell 0
    have l2 := World.block_lt_of_cell? w2 ⟨w1.heap.size, 0, none⟩ c2
    have hb2 : Below wb.heap.size wb w2 := hb1.trans (h12.mono hb1.size)
    have c3 := (hb2.cell (p := ⟨w.heap.size, 0, none⟩) l1).trans C1.out
    have l3 := World.block_lt_of_cell? w2 ⟨w.heap.size, 0, none⟩ c3
    have HP : Hid (PredC 207 #[.pointer (some ⟨w.heap.size, 0, none⟩), .pointer (some ⟨w1.heap.size, 0, none⟩)] E.length (p E) w2) :=
      ⟨enters_of Tryz.func207 (by kernel_rfl) rfl, fun w' hb' i hi => et1_any F caps _ _ g i (p E i) w' Heg.out (HF.out E ps HE.out _ g _ w' (hM.below (h12.trans (hb'.mono h12.size)) (Nat.le_refl _)) (Hbb.out.trans ((hb2.trans (hb'.mono hb2.size)).mono Hbb.out.size)) i hi) ((hb'.cell l3).trans c3) ((hb'.cell l2).trans c2)⟩
    have HM := Lib.hid (hM.below h12 (Nat.le_refl _))
    have Hb2 := Lib.hid (Hbb.out.trans (hb2.mono Hbb.out.size))
    have Hw2 := Lib.hid hw2
    have hsz := hb2.size
    clear hM hs hb1 hr0 hw2 h12 l2 hb2 c3 l3
    go_wp2_with fail
    rw [← Hw2.out]
    clear Hw2
    refine (only_any _ _ (p E) w2 HM.out hlen hpos HP.out).mono ?_
    rintro e w3 ⟨v', rfl, ho, hb3⟩
    have hR : thatR p ms = thatE (p E) E := by unfold thatR; rw [HE.out.r]
    have Ho : Hid (OwM 31 w3 w.heap.size v' (thatR p ms)) := by show OwM _ _ _ _ _; rw [hR]; exact ho.mono Hb2.out.size
    have Hb3 := Lib.hid (Hb2.out.trans (hb3.mono Hb2.out.size))
    obtain ⟨A', c', e', _⟩ := ho.form
    obtain ⟨k, hk⟩ : ∃ k, k = (((List.range E.length).filter (p E)).map (gm E)).length := ⟨_, rfl⟩
    rw [← hk] at e'
    subst e'
    clear ho hb3 hR hk
    go_wp2
    go_ret2
    exact .mk _ (by rw [Hc.out] <;> rfl) Ho.out Hb3.out
  · have hR : thatR p ms = [] := by unfold thatR; rw [elR_bad hc]; rfl
    have HR := Lib.hid hR
    have Hcc := Lib.hid hcc
    obtain ⟨p0, p4⟩ := elC_p hc
    have hne : (elC ms [] != 0) = true := by simpa using hc
    clear hc hcc hR
    go_enter Tryz.func114, Tryz.ntmps114
    go_wp2_with fail
    rw [← Hwb.out]
    refine (monoidOf_any A none n c 0 0 ms [] wb Hx.out Rd.nil_ Hn.out rfl HA.out (fun _ => ⟨rfl, rfl⟩) (by omega)).mono ?_
    rintro e w1 ⟨r, v, rfl, hb1, hr0, hs⟩
    have hne0 : monC ms [] ≠ 0 := by rw [Hcc.out]; omega
    obtain rfl := (hr0 hne0).1
    clear hne0
    rw [Hcc.out]
    have Hb := Lib.hid (Hbb.out.trans (hb1.mono Hbb.out.size))
    clear hb1 hs
    go_wp2
    go_ret2
    exact .mk _ rfl (by rw [HR.out]; exact OwM.nil_) ((Hb.out).alloc Hb.out.size _)

set_option maxRecDepth 100000
set_option linter.unusedSimpArgs false

theorem centreF_any (A : Option Addr) (n c : Nat) (ms : List M) (w : World) (hx : RdM w w.heap.size A ms) (hn : ms.length = n) (hA : A = none → n = 0 ∧ c = 0) (hb : n < 536870912) :
    Calls Tryz.prog 21 #[.slice A n c] w (RetM (thatR centB ms) (elC ms []) w) := by
  have H := Lib.hid (elementsThat_any A n c ms 128 #[] centB w hx hn hA hb (enters_of Tryz.func128 (by kernel_rfl) rfl)
    fun E ps hE B g us w1 hM _ i hi => isCentral_any i w1 hM hE.len hE.mnd hi)
  clear hx hn hA
  go_enter Tryz.func21, Tryz.ntmps21
  go_wp2_with fail
  refine H.out.mono ?_
  rintro e w1 ⟨v, rfl, ho, hb1⟩
  obtain ⟨A', c', rfl, _⟩ := ho.form
  have Ho := Lib.hid ho
  clear ho
  go_wp2
  go_ret2
  exact .mk _ rfl Ho.out hb1

theorem idem1_any {n : Int} {B g : Nat} {E : List M} {us : List (List Int)} (i : Nat) (w : World) (h : MonAt n B g E us w) (hm : Mnd n E) (hi : i < E.length) :
    Calls Tryz.prog 125 #[.pointer (some ⟨g, 0, none⟩), I i] w fun e w' => e = .returned (.bool (isIdem (gm E i))) ∧ Below w.heap.size w w' := by
  obtain ⟨_, ev, wv, pl, vs, hM, hP, hO, _⟩ := h
  obtain ⟨gE, cE, rfl⟩ := hO.some_ (by omega)
  have c0 := hM.c0
  have hv := (hm.ok _ (gm_mem hi)).1
  have h6 := RdM.at_ hO.rd (k := i) hi
  obtain ⟨b', off', e, _, h6⟩ := h6
  injection e with e
  injection e with e1 e2 _
  subst e1 e2
  rw [Nat.zero_add] at h6
  obtain ⟨f, hf⟩ : ∃ f, f = gm E i := ⟨_, rfl⟩
  rw [← hf] at h6 hv ⊢
  obtain ⟨x0, x1, x2, x3, x4, x5⟩ := h6
  have ki : (i : Int) < (E.length : Int) := by omega
  clear hM hP hO hf
  go_enter Tryz.func125, Tryz.ntmps125
  go_wp2_with fail
  refine (isIdem_any f w hv).mono ?_
  rintro e w1 ⟨rfl, hb1⟩
  go_wp2
  go_ret
  exact ⟨rfl, hb1⟩
def idemB (E : List M) (i : Nat) : Bool := isIdem (gm E i)
theorem idemF_any (A : Option Addr) (n c : Nat) (ms : List M) (w : World) (hx : RdM w w.heap.size A ms) (hn : ms.length = n) (hA : A = none → n = 0 ∧ c = 0) (hb : n < 536870912) :
    Calls Tryz.prog 19 #[.slice A n c] w (RetM (thatR idemB ms) (elC ms []) w) := by
  have H := Lib.hid (elementsThat_any A n c ms 125 #[] idemB w hx hn hA hb (enters_of Tryz.func125 (by kernel_rfl) rfl)
    fun E ps hE B g us w1 hM _ i hi => idem1_any i w1 hM hE.mnd hi)
  clear hx hn hA
  go_enter Tryz.func19, Tryz.ntmps19
  go_wp2_with fail
  refine H.out.mono ?_
  rintro e w1 ⟨v, rfl, ho, hb1⟩
  obtain ⟨A', c', rfl, _⟩ := ho.form
  have Ho := Lib.hid ho
  clear ho
  go_wp2
  go_ret2
  exact .mk _ rfl Ho.out hb1

theorem sideF1_any {n : Int} {B g : Nat} {E : List M} {us : List (List Int)} (b i : Nat) (r : Bool) (w : World) (h : MonAt n B g E us w) (hE : E.length ≤ 300) (hm : Mnd n E) (hi : i < E.length) (c1 : w.cell? ⟨b, 0, none⟩ = some (.bool r)) :
    Calls Tryz.prog 124 #[.pointer (some ⟨g, 0, none⟩), I i, .pointer (some ⟨b, 0, none⟩)] w fun e w' => e = .returned (.bool (sideB E r i)) ∧ Below w.heap.size w w' := by
  have H := Lib.hid (isSideZero_any i r w h hE hm hi)
  clear h
  go_enter Tryz.func124, Tryz.ntmps124
  go_wp2_with fail
  refine H.out.mono ?_
  rintro e w1 ⟨rfl, hb1⟩
  go_wp2
  go_ret
  exact ⟨rfl, hb1⟩
theorem sideF_any (A : Option Addr) (n c : Nat) (ms : List M) (r : Bool) (w : World) (hx : RdM w w.heap.size A ms) (hn : ms.length = n) (hA : A = none → n = 0 ∧ c = 0) (hb : n < 536870912) :
    Calls Tryz.prog 17 #[.slice A n c, .bool r] w (RetM (thatR (fun E => sideB E r) ms) (elC ms []) w) := by
  obtain ⟨wb, hwb⟩ : ∃ wb, wb = w.alloc (.cells #[.bool r] 4) := ⟨_, rfl⟩
  have hbb : Below w.heap.size w wb := by rw [hwb]; exact (Below.refl _ _).alloc (Nat.le_refl _) _
  have c1 : wb.cell? ⟨w.heap.size, 0, none⟩ = some (.bool r) := by rw [hwb]; exact (Blk.new w _ _).cell 0
  have l1 := World.block_lt_of_cell? wb ⟨w.heap.size, 0, none⟩ c1
  have H := Lib.hid (elementsThat_any A n c ms 124 #[.pointer (some ⟨w.heap.size, 0, none⟩)] (fun E => sideB E r) wb (Rd.more (Rd.below hx hbb) hbb.size) hn hA hb (enters_of Tryz.func124 (by kernel_rfl) rfl)
    fun E ps hE B g us w1 hM hb1 i hi => sideF1_any _ i r w1 hM hE.len hE.mnd hi ((hb1.cell l1).trans c1))
  have Hbb := Lib.hid hbb
  have Hwb := Lib.hid hwb
  obtain ⟨R, hR⟩ : ∃ R, R = thatR (fun E => sideB E r) ms := ⟨_, rfl⟩
  rw [← hR] at H ⊢
  clear hx hn hA hbb hwb c1 l1 hR
  go_enter Tryz.func17, Tryz.ntmps17
  go_wp2_with fail
  rw [← Hwb.out]
  refine H.out.mono ?_
  rintro e w1 ⟨v, rfl, ho, hb1⟩
  obtain ⟨A', c', rfl, _⟩ := ho.form
  have Ho := Lib.hid (ho.mono Hbb.out.size)
  have Hb := Lib.hid (Hbb.out.trans (hb1.mono Hbb.out.size))
  clear ho hb1
  go_wp2
  go_ret2
  exact .mk _ rfl Ho.out Hb.out

/-! ### zeros -/
def zeroB (E : List M) (i : Nat) : Bool := sideB E true i && sideB E false i
theorem zeroF1_any {n : Int} {B g : Nat} {E : List M} {us : List (List Int)} (i : Nat) (w : World) (h : MonAt n B g E us w) (hE : E.length ≤ 300) (hm : Mnd n E) (hi : i < E.length) :
    Calls Tryz.prog 119 #[.pointer (some ⟨g, 0, none⟩), I i] w fun e w' => e = .returned (.bool (zeroB E i)) ∧ Below w.heap.size w w' := by
  have H1 := Lib.hid (isSideZero_any i true w h hE hm hi)
  have H2 := Lib.hid (fun w' (hb : Below w.heap.size w w') => isSideZero_any i false w' (h.below hb (Nat.le_refl _)) hE hm hi)
  clear h
  cases hs : sideB E true i
  · rw [hs] at H1
    have Hr : Hid (zeroB E i = false) := by show _ = _; unfold zeroB; rw [hs]; rfl
    clear hs
    go_enter Tryz.func119, Tryz.ntmps119
    go_wp2_with fail
    refine H1.out.mono ?_
    rintro e w1 ⟨rfl, hb1⟩
    go_wp2
    go_ret
    exact ⟨ret_bool Hr.out.symm, hb1⟩
  · rw [hs] at H1
    have Hr : Hid (zeroB E i = sideB E false i) := by show _ = _; unfold zeroB; rw [hs]; rfl
    clear hs
    go_enter Tryz.func119, Tryz.ntmps119
    go_wp2_with fail
    refine H1.out.mono ?_
    rintro e w1 ⟨rfl, hb1⟩
    have Hb1 := Lib.hid hb1
    clear hb1
    go_wp2_with fail
    refine (H2.out w1 Hb1.out).mono ?_
    rintro e w2 ⟨rfl, hb2⟩
    have Hb := Lib.hid (Hb1.out.trans (hb2.mono Hb1.out.size))
    clear hb2
    go_wp2
    go_ret
    exact ⟨ret_bool Hr.out.symm, Hb.out⟩
/-- the zero and the code -/
def zeroR (ms : List M) : M := (thatR zeroB ms).headD M0
def zeroC (ms : List M) : Int := if elC ms [] = 0 then (if thatR zeroB ms = [] then 4 else 0) else elC ms []
theorem zeroF_any (A : Option Addr) (n c : Nat) (ms : List M) (w : World) (hx : RdM w w.heap.size A ms) (hn : ms.length = n) (hA : A = none → n = 0 ∧ c = 0) (hb : n < 536870912) :
    Calls Tryz.prog 14 #[.slice A n c] w fun e w' => e = .returned (.tuple #[.agg (mc (zeroR ms)), I (zeroC ms)]) ∧ Below w.heap.size w w' := by
  obtain ⟨wb, hwb⟩ : ∃ wb, wb = w.alloc (.cells #[.int .i64 0, .int .i64 0, .int .i64 0, .int .i64 0, .int .i64 0, .int .i64 0] 31) := ⟨_, rfl⟩
  have hbb : Below w.heap.size w wb := by rw [hwb]; exact (Below.refl _ _).alloc (Nat.le_refl _) _
  have HB : Hid (Blk wb w.heap.size 31 (mc M0)) := by show Blk _ _ _ _; rw [hwb]; exact Blk.new w _ _
  have H := Lib.hid (elementsThat_any A n c ms 119 #[] zeroB wb (Rd.more (Rd.below hx hbb) hbb.size) hn hA hb (enters_of Tryz.func119 (by kernel_rfl) rfl)
    fun E ps hE B g us w1 hM _ i hi => zeroF1_any i w1 hM hE.len hE.mnd hi)
  have Hbb := Lib.hid hbb
  have Hwb := Lib.hid hwb
  have hlt := HB.out.lt
  clear hx hn hA hbb hwb
  by_cases hc : elC ms [] = 0
  · rw [hc] at H
    cases hz : thatR zeroB ms with
    | nil =>
      have HC : Hid (zeroC ms = 4) := by show _ = _; unfold zeroC; rw [if_pos hc, if_pos hz]
      have HR : Hid (zeroR ms = M0) := by show _ = _; unfold zeroR; rw [hz]; rfl
      rw [hz] at H
      clear hc hz
      go_enter Tryz.func14, Tryz.ntmps14
      go_wp2_with fail
      rw [← Hwb.out]
      refine H.out.mono ?_
      rintro e w1 ⟨v, rfl, ho, hb1⟩
      obtain ⟨A', c', rfl, _⟩ := ho.form
      have HB1 := HB.out.below hb1 hlt
      obtain ⟨e0, e1, e2, e3, e4, e5⟩ := HB1.six
      obtain ⟨z0, z1, z2, z3, z4, z5⟩ := HB1.fr6
      have Hb := Lib.hid (Hbb.out.trans (hb1.mono Hbb.out.size))
      clear ho hb1
      go_wp2
      refine bodyPost_ret (v := .tuple #[.agg (mc M0), I 4]) ?_ rfl ⟨by rw [HR.out, HC.out], below_st6 Hb.out (Nat.le_refl _) M0⟩
      simp [results, Tryz.results14, go_sem, *]
      exact ⟨rfl, rfl, rfl, rfl, rfl, rfl⟩
    | cons f L =>
      have HC : Hid (zeroC ms = 0) := by show _ = _; unfold zeroC; rw [if_pos hc, if_neg (by rw [hz]; simp)]
      have HR : Hid (zeroR ms = f) := by show _ = _; unfold zeroR; rw [hz]; rfl
      rw [hz] at H
      clear hc hz
      go_enter Tryz.func14, Tryz.ntmps14
      go_wp2_with fail
      rw [← Hwb.out]
      refine H.out.mono ?_
      rintro e w1 ⟨v, rfl, ho, hb1⟩
      obtain ⟨g, c', rfl⟩ := ho.some_ (by simp)
      have h6 := RdM.at_ ho.rd (k := 0) (by simp)
      obtain ⟨b', off', e, _, h6⟩ := h6
      injection e with e
      injection e with e1 e2 _
      subst e1 e2
      rw [Nat.zero_add, Nat.zero_mul] at h6
      obtain ⟨x0, x1, x2, x3, x4, x5⟩ := h6
      have hgm : gm (f :: L) 0 = f := rfl
      rw [hgm] at x0 x1 x2 x3 x4 x5
      rw [List.length_cons] at *
      have HB1 := HB.out.below hb1 hlt
      have Hbk := Lib.hid HB1
      obtain ⟨e0, e1, e2, e3, e4, e5⟩ := HB1.six
      obtain ⟨z0, z1, z2, z3, z4, z5⟩ := HB1.fr6
      have Hb := Lib.hid (Hbb.out.trans (hb1.mono Hbb.out.size))
      have hl0 : ¬ ((L.length : Int) + 1 = 0) := by omega
      clear ho hb1 hgm HB1
      go_wp2
      refine bodyPost_ret (v := .tuple #[.agg (mc f), I 0]) ?_ rfl ⟨by rw [HR.out, HC.out], below_st6 Hb.out (Nat.le_refl _) f⟩
      simp [results, Tryz.results14, go_sem, *]
  · have hR : thatR zeroB ms = [] := by unfold thatR; rw [elR_bad hc]; rfl
    have HC : Hid (zeroC ms = elC ms []) := by show _ = _; unfold zeroC; rw [if_neg hc]
    have HR : Hid (zeroR ms = M0) := by show _ = _; unfold zeroR; rw [hR]; rfl
    have hne : (elC ms [] != 0) = true := by simpa using hc
    clear hc hR
    go_enter Tryz.func14, Tryz.ntmps14
    go_wp2_with fail
    rw [← Hwb.out]
    refine H.out.mono ?_
    rintro e w1 ⟨v, rfl, ho, hb1⟩
    obtain ⟨A', c', rfl, _⟩ := ho.form
    have HB1 := HB.out.below hb1 hlt
    obtain ⟨e0, e1, e2, e3, e4, e5⟩ := HB1.six
    obtain ⟨z0, z1, z2, z3, z4, z5⟩ := HB1.fr6
    have Hb := Lib.hid (Hbb.out.trans (hb1.mono Hbb.out.size))
    clear ho hb1
    go_wp2
    refine bodyPost_ret (v := .tuple #[.agg (mc M0), I (elC ms [])]) ?_ rfl ⟨by rw [HR.out, HC.out], below_st6 Hb.out (Nat.le_refl _) M0⟩
    simp [results, Tryz.results14, go_sem, *]
    exact ⟨rfl, rfl, rfl, rfl, rfl, rfl⟩

set_option maxRecDepth 100000
set_option linter.unusedSimpArgs false

theorem allB_any {n : Int} {B g : Nat} {E : List M} {us : List (List Int)} (fn : Nat) (p : Nat → Bool) (w : World) (h : MonAt n B g E us w) (hpos : 0 < E.length) (hE : E.length ≤ 300)
    (eg : ∀ args w, (callFunc fn args).run Tryz.prog w = .ok (.enter fn args) w)
    (hc : ∀ w', Below w.heap.size w w' → ∀ i, i < E.length → Calls Tryz.prog fn #[.pointer (some ⟨g, 0, none⟩), I i] w' fun e w'' => e = .returned (.bool (p i)) ∧ Below w'.heap.size w' w'') :
    Calls Tryz.prog 132 #[.pointer (some ⟨g, 0, none⟩), .func (.func fn) #[.pointer (some ⟨g, 0, none⟩)] #[]] w fun e w' => e = .returned (.bool ((List.range E.length).all p)) ∧ Below w.heap.size w w' := by
  obtain ⟨_, ev, wv, pl, vs, hM, hP, hO, _⟩ := h
  obtain ⟨gE, cE, rfl⟩ := hO.some_ (by omega)
  have c0 := hM.c0
  have Hc := Lib.hid hc
  clear hM hP hO hc
  go_enter Tryz.func132, Tryz.ntmps132
  go_wp2_with fail
  go_loopw [11] (fun i wr => ∃ r : Nat, i = .int .i64 r ∧ r ≤ E.length ∧ Below w.heap.size w wr ∧ (List.range r).all p = true) (fun i _ => E.length - (intOf i).toNat)
  case atStart => exact ⟨0, rfl, by omega, Below.refl _ _, rfl⟩
  case round =>
    obtain ⟨r, rfl, hr, hb, hp⟩ := hrel
    have Hb := Lib.hid hb
    have Hp := Lib.hid hp
    clear hb hp
    by_cases hrl : r < E.length
    · have hrE : (r : Int) < (E.length : Int) := by omega
      go_wp2_with fail
      refine (Hc.out _ Hb.out r hrl).mono ?_
      rintro e w2 ⟨rfl, hb2⟩
      have Hb2 := Lib.hid (Hb.out.trans (hb2.mono Hb.out.size))
      have hs : (List.range (r + 1)).all p = p r := by rw [List.range_succ, List.all_append, Hp.out]; simp
      clear hb2
      cases hpr : p r
      · have hall : (List.range E.length).all p = false := by
          rw [Bool.eq_false_iff, ne_eq, List.all_eq_true]
          intro h
          rw [h r (List.mem_range.2 hrl)] at hpr
          cases hpr
        go_wp2
        go_ret
        exact ⟨by rw [hall]; rfl, Hb2.out⟩
      · rw [hpr] at hs
        have Hs := Lib.hid hs
        clear hs
        go_wp2
        go_roundw
        case rel => exact ⟨r + 1, by go_num, by omega, Hb2.out, Hs.out⟩
        case measure => simp [intOf]; omega
    · obtain rfl : r = E.length := by omega
      have hrl' : ¬ ((E.length : Int) < (E.length : Int)) := by omega
      go_wp2
      go_ret
      exact ⟨by rw [Hp.out]; rfl, Hb.out⟩

def comB (E : List M) : Bool := (List.range E.length).all (centB E)
def comR (ms : List M) : Bool := decide (elC ms [] = 0) && comB (elR ms [])
theorem ImplCom_any (A : Option Addr) (n c : Nat) (ms : List M) (w : World) (hx : RdM w w.heap.size A ms) (hn : ms.length = n) (hA : A = none → n = 0 ∧ c = 0) (hb : n < 536870912) :
    Calls Tryz.prog 24 #[.slice A n c] w fun e w' => e = .returned (.tuple #[.bool (comR ms), I (elC ms [])]) ∧ Below w.heap.size w w' := by
  have Hx := Lib.hid hx
  have Hn := Lib.hid hn
  have HA := Lib.hid hA
  have hcc := monC_nil ms
  have eg : ∀ args w, (callFunc 128 args).run Tryz.prog w = .ok (.enter 128 args) w := enters_of Tryz.func128 (by kernel_rfl) rfl
  have Heg := Lib.hid eg
  clear hx hn hA eg
  by_cases hc : elC ms [] = 0
  · obtain ⟨E, ps, hE⟩ := elC_el hc
    have HE := Lib.hid hE
    have hlen := hE.len
    have hpos := hE.pos
    have hR : comR ms = comB E := by unfold comR; rw [decide_eq_true hc, Bool.true_and, hE.r]
    have HR := Lib.hid hR
    rw [hc] at hcc
    have Hc := Lib.hid hc
    have Hcc := Lib.hid hcc
    clear hE hc hcc hR
    go_enter Tryz.func24, Tryz.ntmps24
    go_wp2_with fail
    refine (monoidOf_any A none n c 0 0 ms [] _ Hx.out Rd.nil_ Hn.out rfl HA.out (fun _ => ⟨rfl, rfl⟩) (by omega)).mono ?_
    rintro e w1 ⟨r, v, rfl, hb1, hr0, hs⟩
    obtain ⟨g, rfl, hM, _⟩ := hs ps HE.out.clo Hcc.out
    rw [← HE.out.eq] at hM
    rw [Hcc.out]
    have HM := Lib.hid hM
    have Hb1 := Lib.hid hb1
    clear hM hs hb1 hr0
    go_wp2_with fail
    refine (allB_any 128 (centB E) w1 HM.out hpos hlen Heg.out fun w' hb' i hi => isCentral_any i w' (HM.out.below hb' (Nat.le_refl _)) hlen HE.out.mnd hi).mono ?_
    rintro e w2 ⟨rfl, hb2⟩
    have Hb2 := Lib.hid (Hb1.out.trans (hb2.mono Hb1.out.size))
    have HR2 : Hid (comR ms = (List.range E.length).all (centB E)) := HR.out
    clear hb2
    go_wp2
    go_ret2
    exact ⟨by rw [HR2.out, Hc.out] <;> rfl, Hb2.out⟩
  · have hR : comR ms = false := by unfold comR; rw [decide_eq_false hc]; rfl
    have HR := Lib.hid hR
    have Hcc := Lib.hid hcc
    obtain ⟨p0, p4⟩ := elC_p hc
    have hne : (elC ms [] == 0) = false := by simpa using hc
    clear hc hcc hR
    go_enter Tryz.func24, Tryz.ntmps24
    go_wp2_with fail
    refine (monoidOf_any A none n c 0 0 ms [] _ Hx.out Rd.nil_ Hn.out rfl HA.out (fun _ => ⟨rfl, rfl⟩) (by omega)).mono ?_
    rintro e w1 ⟨r, v, rfl, hb1, hr0, hs⟩
    rw [Hcc.out]
    have Hb := Lib.hid hb1
    clear hb1 hs hr0
    go_wp2
    go_ret2
    exact ⟨by rw [HR.out] <;> rfl, Hb.out⟩

end Go.Proofs.YtkbfocoaobiijaaGreat
