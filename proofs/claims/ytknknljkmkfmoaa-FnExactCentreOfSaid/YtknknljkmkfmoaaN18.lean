/- Contracts of the predicates on the elements of a monoid and of elementsThat; the monoid stands as the theorems say. -/
import Derived.Test.YtknknljkmkfmoaaN17
import Derived.Test.YtknknljkmkfmoaaK5
namespace Go.Proofs.Ytknknljkmkfmoaa
open Go.RowKit
set_option maxRecDepth 100000
set_option linter.unusedSimpArgs false

/-- the place of a product of two elements -/
def pc (E : List M) (i k : Nat) : Nat := ix E (mul (gm E i) (gm E k))
theorem pc_lt {n : Int} {E : List M} (hm : Mnd n E) {i k : Nat} (hi : i < E.length) (hk : k < E.length) : pc E i k < E.length := hm.ix_mul hi hk
theorem gm_pc {n : Int} {E : List M} (hm : Mnd n E) {i k : Nat} (hi : i < E.length) (hk : k < E.length) : gm E (pc E i k) = mul (gm E i) (gm E k) := gm_ix (hm.mulE _ (gm_mem hi) _ (gm_mem hk))
theorem prod_any {n : Int} {B g : Nat} {E : List M} {us : List (List Int)} (i k : Nat) (w : World) (h : MonAt n B g E us w) (hE : E.length ≤ 300) (hm : Mnd n E) (hi : i < E.length) (hk : k < E.length) :
    Calls Try.prog 139 #[.pointer (some ⟨g, 0, none⟩), I i, I k] w fun e w' => e = .returned (I (pc E i k)) ∧ Below w.heap.size w w' := product_any i k w h hE hm hi hk

theorem beqc (x y : Nat) : ((x : Int) == (y : Int)) = (x == y) := by rw [Bool.eq_iff_iff, beq_iff_eq, beq_iff_eq]; omega

/-! ### central elements -/
theorem central1_any {n : Int} {B g : Nat} {E : List M} {us : List (List Int)} (b1 b2 i k : Nat) (w : World) (h : MonAt n B g E us w) (hE : E.length ≤ 300) (hm : Mnd n E) (hi : i < E.length) (hk : k < E.length)
    (c1 : w.cell? ⟨b1, 0, none⟩ = some (.pointer (some ⟨g, 0, none⟩))) (c2 : w.cell? ⟨b2, 0, none⟩ = some (I i)) :
    Calls Try.prog 138 #[I k, .pointer (some ⟨b1, 0, none⟩), .pointer (some ⟨b2, 0, none⟩)] w fun e w' => e = .returned (.bool (pc E i k == pc E k i)) ∧ Below w.heap.size w w' := by
  have H := Lib.hid h
  have C1 := Lib.hid c1
  have C2 := Lib.hid c2
  have l1 := World.block_lt_of_cell? w ⟨b1, 0, none⟩ c1
  have l2 := World.block_lt_of_cell? w ⟨b2, 0, none⟩ c2
  have HP := Lib.hid (fun w' (hS : Below w.heap.size w w') => prod_any i k w' (H.out.below hS (Nat.le_refl _)) hE hm hi hk)
  have HQ := Lib.hid (fun w' (hS : Below w.heap.size w w') => prod_any k i w' (H.out.below hS (Nat.le_refl _)) hE hm hk hi)
  obtain ⟨x, hx⟩ : ∃ x, x = pc E i k := ⟨_, rfl⟩
  obtain ⟨y, hy⟩ : ∃ y, y = pc E k i := ⟨_, rfl⟩
  rw [← hx] at HP ⊢
  rw [← hy] at HQ ⊢
  clear h c1 c2 hx hy H
  go_enter Try.func138, Try.ntmps138
  go_wp2_with fail
  refine wp_region_same [] rfl (by kernel_rfl) (by kernel_rfl) (by kernel_rfl) (fun w' => Below w.heap.size w w') _
    [.pointer (some ⟨g, 0, none⟩), I i, I k, I x, .pointer (some ⟨g, 0, none⟩), I k, I i, I y, .bool ((x : Int) == (y : Int)), .bool ((x : Int) == (y : Int))]
    (by simp only [putAll, List.setIfInBounds_toArray, List.set_cons_succ, List.set_cons_zero]; rfl) (Below.refl _ _).drew ?hop ?hQ
  case hop =>
    refine FixBL.toL (fun w' w'' hS hb => hS.trans (hb.mono hS.size)) _ _ ?_
    refine ⟨.inr ?_, .inr ?_, .inr ?_, .inr ?_, .inr ?_, .inr ?_, .inr ?_, .inr ?_, .inr ?_, .inr ?_, trivial⟩
    · (with_reducible refine FixB.of ?_ ?_; rfl; intro w' hS; have s0 := (hS.cell (p := ⟨b1, 0, none⟩) l1).trans C1.out; have s1 := (hS.cell (p := ⟨b2, 0, none⟩) l2).trans C2.out; clear hS; unfold Oper.wp; go_simp; first | done | exact Below.refl _ _)
    · (with_reducible refine FixB.of ?_ ?_; rfl; intro w' hS; have s0 := (hS.cell (p := ⟨b1, 0, none⟩) l1).trans C1.out; have s1 := (hS.cell (p := ⟨b2, 0, none⟩) l2).trans C2.out; clear hS; unfold Oper.wp; go_simp; first | done | exact Below.refl _ _)
    · (with_reducible refine FixB.of ?_ ?_; rfl; intro w' hS; have s0 := (hS.cell (p := ⟨b1, 0, none⟩) l1).trans C1.out; have s1 := (hS.cell (p := ⟨b2, 0, none⟩) l2).trans C2.out; clear hS; unfold Oper.wp; go_simp; first | done | exact Below.refl _ _)
    · (with_reducible refine FixB.of ?_ ?_; rfl; intro w' hS; have s3 := Lib.hid hS; unfold Oper.wp; clear hS; go_simp; refine (HP.out _ s3.out).mono ?_; rintro e w1 ⟨rfl, hb⟩; exact ⟨rfl, hb⟩)
    · (with_reducible refine FixB.of ?_ ?_; rfl; intro w' hS; have s0 := (hS.cell (p := ⟨b1, 0, none⟩) l1).trans C1.out; have s1 := (hS.cell (p := ⟨b2, 0, none⟩) l2).trans C2.out; clear hS; unfold Oper.wp; go_simp; first | done | exact Below.refl _ _)
    · (with_reducible refine FixB.of ?_ ?_; rfl; intro w' hS; have s0 := (hS.cell (p := ⟨b1, 0, none⟩) l1).trans C1.out; have s1 := (hS.cell (p := ⟨b2, 0, none⟩) l2).trans C2.out; clear hS; unfold Oper.wp; go_simp; first | done | exact Below.refl _ _)
    · (with_reducible refine FixB.of ?_ ?_; rfl; intro w' hS; have s0 := (hS.cell (p := ⟨b1, 0, none⟩) l1).trans C1.out; have s1 := (hS.cell (p := ⟨b2, 0, none⟩) l2).trans C2.out; clear hS; unfold Oper.wp; go_simp; first | done | exact Below.refl _ _)
    · (with_reducible refine FixB.of ?_ ?_; rfl; intro w' hS; have s3 := Lib.hid hS; unfold Oper.wp; clear hS; go_simp; refine (HQ.out _ s3.out).mono ?_; rintro e w1 ⟨rfl, hb⟩; exact ⟨rfl, hb⟩)
    · (with_reducible refine FixB.of ?_ ?_; rfl; intro w' hS; have s0 := (hS.cell (p := ⟨b1, 0, none⟩) l1).trans C1.out; have s1 := (hS.cell (p := ⟨b2, 0, none⟩) l2).trans C2.out; clear hS; unfold Oper.wp; go_simp; first | done | exact Below.refl _ _)
    · (with_reducible refine FixB.of ?_ ?_; rfl; intro w' hS; have s0 := (hS.cell (p := ⟨b1, 0, none⟩) l1).trans C1.out; have s1 := (hS.cell (p := ⟨b2, 0, none⟩) l2).trans C2.out; clear hS; unfold Oper.wp; go_simp; first | done | exact Below.refl _ _)
  case hQ =>
  intro wc hS _
  have Hb := Lib.hid hS
  clear hS
  go_wp2
  go_ret
  exact ⟨ret_bool (beqc x y), Hb.out⟩
def centB (E : List M) (i : Nat) : Bool := (List.range E.length).all fun k => pc E i k == pc E k i
theorem isCentral_any {n : Int} {B g : Nat} {E : List M} {us : List (List Int)} (i : Nat) (w : World) (h : MonAt n B g E us w) (hE : E.length ≤ 300) (hm : Mnd n E) (hi : i < E.length) :
    Calls Try.prog 85 #[.pointer (some ⟨g, 0, none⟩), I i] w fun e w' => e = .returned (.bool (centB E i)) ∧ Below w.heap.size w w' := by
  obtain ⟨wb, hwb⟩ : ∃ wb, wb = (w.alloc (.cells #[.pointer (some ⟨g, 0, none⟩)] 63)).alloc (.cells #[I i] 3) := ⟨_, rfl⟩
  have hbb : Below w.heap.size w wb := by rw [hwb]; exact ((Below.refl _ _).alloc (Nat.le_refl _) _).alloc (by simp) _
  have c1 : wb.cell? ⟨w.heap.size, 0, none⟩ = some (.pointer (some ⟨g, 0, none⟩)) := by rw [hwb]; exact (Blk.alloc (Blk.new w _ _) _).cell 0
  have c2 : wb.cell? ⟨w.heap.size + 1, 0, none⟩ = some (I i) := by rw [hwb]; exact (Blk.new' _ _ _ (by simp)).cell 0
  have l1 := World.block_lt_of_cell? wb ⟨w.heap.size, 0, none⟩ c1
  have l2 := World.block_lt_of_cell? wb ⟨w.heap.size + 1, 0, none⟩ c2
  have HP : Hid (PredC 138 #[.pointer (some ⟨w.heap.size, 0, none⟩), .pointer (some ⟨w.heap.size + 1, 0, none⟩)] E.length (fun k => pc E i k == pc E k i) wb) :=
    ⟨enters_of Try.func138 (by kernel_rfl) rfl, fun w' hb' k hk => central1_any _ _ i k w' ((h.below hbb (Nat.le_refl _)).below hb' (Nat.le_refl _)) hE hm hi hk ((hb'.cell l1).trans c1) ((hb'.cell l2).trans c2)⟩
  have HM := Lib.hid (h.below hbb (Nat.le_refl _))
  have Hbb := Lib.hid hbb
  have Hwb := Lib.hid hwb
  clear h hbb hwb c2 l1 l2
  go_enter Try.func85, Try.ntmps85
  go_wp2_with fail
  rw [← Hwb.out]
  refine (all_any _ _ _ wb HM.out hE (by omega) HP.out).mono ?_
  rintro e w1 ⟨rfl, hb1⟩
  have Hb := Lib.hid (Hbb.out.trans (hb1.mono Hbb.out.size))
  clear hb1
  go_wp2
  go_ret
  exact ⟨rfl, Hb.out⟩

/-! ### zeros of one side -/
theorem side1_any {n : Int} {B g : Nat} {E : List M} {us : List (List Int)} (b0 b1 b2 z i : Nat) (r : Bool) (w : World) (h : MonAt n B g E us w) (hE : E.length ≤ 300) (hm : Mnd n E) (hz : z < E.length) (hi : i < E.length)
    (c0 : w.cell? ⟨b0, 0, none⟩ = some (.bool r)) (c1 : w.cell? ⟨b1, 0, none⟩ = some (.pointer (some ⟨g, 0, none⟩))) (c2 : w.cell? ⟨b2, 0, none⟩ = some (I z)) :
    Calls Try.prog 148 #[I i, .pointer (some ⟨b0, 0, none⟩), .pointer (some ⟨b1, 0, none⟩), .pointer (some ⟨b2, 0, none⟩)] w fun e w' => e = .returned (.bool ((if r then pc E i z else pc E z i) == z)) ∧ Below w.heap.size w w' := by
  have H := Lib.hid h
  have C1 := Lib.hid c1
  have C2 := Lib.hid c2
  have l1 := World.block_lt_of_cell? w ⟨b1, 0, none⟩ c1
  have l2 := World.block_lt_of_cell? w ⟨b2, 0, none⟩ c2
  have HP := Lib.hid (fun w' (hS : Below w.heap.size w w') => prod_any i z w' (H.out.below hS (Nat.le_refl _)) hE hm hi hz)
  have HQ := Lib.hid (fun w' (hS : Below w.heap.size w w') => prod_any z i w' (H.out.below hS (Nat.le_refl _)) hE hm hz hi)
  obtain ⟨x, hx⟩ : ∃ x, x = pc E i z := ⟨_, rfl⟩
  obtain ⟨y, hy⟩ : ∃ y, y = pc E z i := ⟨_, rfl⟩
  rw [← hx] at HP ⊢
  rw [← hy] at HQ ⊢
  clear h c1 c2 hx hy H
  cases r
  · go_enter Try.func148, Try.ntmps148
    go_wp2_with fail
    refine wp_region_same [] rfl (by kernel_rfl) (by kernel_rfl) (by kernel_rfl) (fun w' => Below w.heap.size w w') _
      [.pointer (some ⟨g, 0, none⟩), I z, I i, I y, I z, .bool ((y : Int) == (z : Int)), .bool ((y : Int) == (z : Int))]
      (by simp only [putAll, List.setIfInBounds_toArray, List.set_cons_succ, List.set_cons_zero]; rfl) (Below.refl _ _).drew ?hop ?hQ
    case hop =>
      refine FixBL.toL (fun w' w'' hS hb => hS.trans (hb.mono hS.size)) _ _ ?_
      refine ⟨.inr ?_, .inr ?_, .inr ?_, .inr ?_, .inr ?_, .inr ?_, .inr ?_, trivial⟩
      · (with_reducible refine FixB.of ?_ ?_; rfl; intro w' hS; have s0 := (hS.cell (p := ⟨b1, 0, none⟩) l1).trans C1.out; have s1 := (hS.cell (p := ⟨b2, 0, none⟩) l2).trans C2.out; clear hS; unfold Oper.wp; go_simp; first | done | exact Below.refl _ _)
      · (with_reducible refine FixB.of ?_ ?_; rfl; intro w' hS; have s0 := (hS.cell (p := ⟨b1, 0, none⟩) l1).trans C1.out; have s1 := (hS.cell (p := ⟨b2, 0, none⟩) l2).trans C2.out; clear hS; unfold Oper.wp; go_simp; first | done | exact Below.refl _ _)
      · (with_reducible refine FixB.of ?_ ?_; rfl; intro w' hS; have s0 := (hS.cell (p := ⟨b1, 0, none⟩) l1).trans C1.out; have s1 := (hS.cell (p := ⟨b2, 0, none⟩) l2).trans C2.out; clear hS; unfold Oper.wp; go_simp; first | done | exact Below.refl _ _)
      · (with_reducible refine FixB.of ?_ ?_; rfl; intro w' hS; have s3 := Lib.hid hS; unfold Oper.wp; clear hS; go_simp; refine (HQ.out _ s3.out).mono ?_; rintro e w1 ⟨rfl, hb⟩; exact ⟨rfl, hb⟩)
      · (with_reducible refine FixB.of ?_ ?_; rfl; intro w' hS; have s0 := (hS.cell (p := ⟨b1, 0, none⟩) l1).trans C1.out; have s1 := (hS.cell (p := ⟨b2, 0, none⟩) l2).trans C2.out; clear hS; unfold Oper.wp; go_simp; first | done | exact Below.refl _ _)
      · (with_reducible refine FixB.of ?_ ?_; rfl; intro w' hS; have s0 := (hS.cell (p := ⟨b1, 0, none⟩) l1).trans C1.out; have s1 := (hS.cell (p := ⟨b2, 0, none⟩) l2).trans C2.out; clear hS; unfold Oper.wp; go_simp; first | done | exact Below.refl _ _)
      · (with_reducible refine FixB.of ?_ ?_; rfl; intro w' hS; have s0 := (hS.cell (p := ⟨b1, 0, none⟩) l1).trans C1.out; have s1 := (hS.cell (p := ⟨b2, 0, none⟩) l2).trans C2.out; clear hS; unfold Oper.wp; go_simp; first | done | exact Below.refl _ _)
    case hQ =>
    intro wc hS _
    have Hb := Lib.hid hS
    clear hS
    go_wp2
    go_ret
    exact ⟨ret_bool (beqc y z), Hb.out⟩
  · go_enter Try.func148, Try.ntmps148
    go_wp2_with fail
    refine wp_region_same [] rfl (by kernel_rfl) (by kernel_rfl) (by kernel_rfl) (fun w' => Below w.heap.size w w') _
      [.pointer (some ⟨g, 0, none⟩), I i, I z, I x, I z, .bool ((x : Int) == (z : Int)), .bool ((x : Int) == (z : Int))]
      (by simp only [putAll, List.setIfInBounds_toArray, List.set_cons_succ, List.set_cons_zero]; rfl) (Below.refl _ _).drew ?hop ?hQ
    case hop =>
      refine FixBL.toL (fun w' w'' hS hb => hS.trans (hb.mono hS.size)) _ _ ?_
      refine ⟨.inr ?_, .inr ?_, .inr ?_, .inr ?_, .inr ?_, .inr ?_, .inr ?_, trivial⟩
      · (with_reducible refine FixB.of ?_ ?_; rfl; intro w' hS; have s0 := (hS.cell (p := ⟨b1, 0, none⟩) l1).trans C1.out; have s1 := (hS.cell (p := ⟨b2, 0, none⟩) l2).trans C2.out; clear hS; unfold Oper.wp; go_simp; first | done | exact Below.refl _ _)
      · (with_reducible refine FixB.of ?_ ?_; rfl; intro w' hS; have s0 := (hS.cell (p := ⟨b1, 0, none⟩) l1).trans C1.out; have s1 := (hS.cell (p := ⟨b2, 0, none⟩) l2).trans C2.out; clear hS; unfold Oper.wp; go_simp; first | done | exact Below.refl _ _)
      · (with_reducible refine FixB.of ?_ ?_; rfl; intro w' hS; have s0 := (hS.cell (p := ⟨b1, 0, none⟩) l1).trans C1.out; have s1 := (hS.cell (p := ⟨b2, 0, none⟩) l2).trans C2.out; clear hS; unfold Oper.wp; go_simp; first | done | exact Below.refl _ _)
      · (with_reducible refine FixB.of ?_ ?_; rfl; intro w' hS; have s3 := Lib.hid hS; unfold Oper.wp; clear hS; go_simp; refine (HP.out _ s3.out).mono ?_; rintro e w1 ⟨rfl, hb⟩; exact ⟨rfl, hb⟩)
      · (with_reducible refine FixB.of ?_ ?_; rfl; intro w' hS; have s0 := (hS.cell (p := ⟨b1, 0, none⟩) l1).trans C1.out; have s1 := (hS.cell (p := ⟨b2, 0, none⟩) l2).trans C2.out; clear hS; unfold Oper.wp; go_simp; first | done | exact Below.refl _ _)
      · (with_reducible refine FixB.of ?_ ?_; rfl; intro w' hS; have s0 := (hS.cell (p := ⟨b1, 0, none⟩) l1).trans C1.out; have s1 := (hS.cell (p := ⟨b2, 0, none⟩) l2).trans C2.out; clear hS; unfold Oper.wp; go_simp; first | done | exact Below.refl _ _)
      · (with_reducible refine FixB.of ?_ ?_; rfl; intro w' hS; have s0 := (hS.cell (p := ⟨b1, 0, none⟩) l1).trans C1.out; have s1 := (hS.cell (p := ⟨b2, 0, none⟩) l2).trans C2.out; clear hS; unfold Oper.wp; go_simp; first | done | exact Below.refl _ _)
    case hQ =>
    intro wc hS _
    have Hb := Lib.hid hS
    clear hS
    go_wp2
    go_ret
    exact ⟨ret_bool (beqc x z), Hb.out⟩
def sideP (E : List M) (r : Bool) (z i : Nat) : Bool := (if r then pc E i z else pc E z i) == z
def sideB (E : List M) (r : Bool) (z : Nat) : Bool := (List.range E.length).all (sideP E r z)
theorem isSideZero_any {n : Int} {B g : Nat} {E : List M} {us : List (List Int)} (z : Nat) (r : Bool) (w : World) (h : MonAt n B g E us w) (hE : E.length ≤ 300) (hm : Mnd n E) (hz : z < E.length) :
    Calls Try.prog 97 #[.pointer (some ⟨g, 0, none⟩), I z, .bool r] w fun e w' => e = .returned (.bool (sideB E r z)) ∧ Below w.heap.size w w' := by
  obtain ⟨wb, hwb⟩ : ∃ wb, wb = ((w.alloc (.cells #[.pointer (some ⟨g, 0, none⟩)] 63)).alloc (.cells #[I z] 3)).alloc (.cells #[.bool r] 4) := ⟨_, rfl⟩
  have hbb : Below w.heap.size w wb := by rw [hwb]; exact (((Below.refl _ _).alloc (Nat.le_refl _) _).alloc (by simp) _).alloc (by simp; omega) _
  have c1 : wb.cell? ⟨w.heap.size, 0, none⟩ = some (.pointer (some ⟨g, 0, none⟩)) := by rw [hwb]; exact (Blk.alloc (Blk.alloc (Blk.new w _ _) _) _).cell 0
  have c2 : wb.cell? ⟨w.heap.size + 1, 0, none⟩ = some (I z) := by rw [hwb]; exact (Blk.alloc (Blk.new' _ _ _ (by simp)) _).cell 0
  have c3 : wb.cell? ⟨w.heap.size + 1 + 1, 0, none⟩ = some (.bool r) := by rw [hwb]; exact (Blk.new' _ _ _ (by simp)).cell 0
  have l1 := World.block_lt_of_cell? wb ⟨w.heap.size, 0, none⟩ c1
  have l2 := World.block_lt_of_cell? wb ⟨w.heap.size + 1, 0, none⟩ c2
  have l3 := World.block_lt_of_cell? wb ⟨w.heap.size + 1 + 1, 0, none⟩ c3
  have HP : Hid (PredC 148 #[.pointer (some ⟨w.heap.size + 1 + 1, 0, none⟩), .pointer (some ⟨w.heap.size, 0, none⟩), .pointer (some ⟨w.heap.size + 1, 0, none⟩)] E.length (sideP E r z) wb) :=
    ⟨enters_of Try.func148 (by kernel_rfl) rfl, fun w' hb' k hk => side1_any _ _ _ z k r w' ((h.below hbb (Nat.le_refl _)).below hb' (Nat.le_refl _)) hE hm hz hk ((hb'.cell l3).trans c3) ((hb'.cell l1).trans c1) ((hb'.cell l2).trans c2)⟩
  have HM := Lib.hid (h.below hbb (Nat.le_refl _))
  have Hbb := Lib.hid hbb
  have Hwb := Lib.hid hwb
  clear h hbb hwb c2 c3 l1 l2 l3
  go_enter Try.func97, Try.ntmps97
  go_wp2_with fail
  rw [← Hwb.out]
  refine (all_any _ _ _ wb HM.out hE (by omega) HP.out).mono ?_
  rintro e w1 ⟨rfl, hb1⟩
  have Hb := Lib.hid (Hbb.out.trans (hb1.mono Hbb.out.size))
  clear hb1
  go_wp2
  go_ret
  exact ⟨rfl, Hb.out⟩

/-! ### some element is such -/
theorem any1_any (fn : Nat) (caps : Array Value) (b i N : Nat) (p : Nat → Bool) (w : World) (hc : PredC fn caps N p w) (hi : i < N) (c1 : w.cell? ⟨b, 0, none⟩ = some (.func (.func fn) #[] caps)) :
    Calls Try.prog 152 #[I i, .pointer (some ⟨b, 0, none⟩)] w fun e w' => e = .returned (.bool (!p i)) ∧ Below w.heap.size w w' := by
  obtain ⟨eg, hc⟩ := hc
  have Hc := Lib.hid (hc w (Below.refl _ _) i hi)
  clear hc
  go_enter Try.func152, Try.ntmps152
  go_wp2_with fail
  refine Hc.out.mono ?_
  rintro e w1 ⟨rfl, hb1⟩
  go_wp2
  go_ret
  exact ⟨rfl, hb1⟩
theorem any_any {n : Int} {B g : Nat} {E : List M} {us : List (List Int)} (fn : Nat) (caps : Array Value) (p : Nat → Bool) (w : World) (h : MonAt n B g E us w) (hE : E.length ≤ 300) (hpos : 0 < E.length) (hc : PredC fn caps E.length p w) :
    Calls Try.prog 104 #[.pointer (some ⟨g, 0, none⟩), .func (.func fn) #[] caps] w fun e w' => e = .returned (.bool ((List.range E.length).any p)) ∧ Below w.heap.size w w' := by
  obtain ⟨wb, hwb⟩ : ∃ wb, wb = w.alloc (.cells #[.func (.func fn) #[] caps] 69) := ⟨_, rfl⟩
  have hbb : Below w.heap.size w wb := by rw [hwb]; exact (Below.refl _ _).alloc (Nat.le_refl _) _
  have c1 : wb.cell? ⟨w.heap.size, 0, none⟩ = some (.func (.func fn) #[] caps) := by rw [hwb]; exact (Blk.new w _ _).cell 0
  have l1 := World.block_lt_of_cell? wb ⟨w.heap.size, 0, none⟩ c1
  have HP : Hid (PredC 152 #[.pointer (some ⟨w.heap.size, 0, none⟩)] E.length (fun i => !p i) wb) :=
    ⟨enters_of Try.func152 (by kernel_rfl) rfl, fun w' hb' k hk => any1_any fn caps _ k E.length p w' ((hc.below hbb).below hb') hk ((hb'.cell l1).trans c1)⟩
  have HM := Lib.hid (h.below hbb (Nat.le_refl _))
  have Hbb := Lib.hid hbb
  have Hwb := Lib.hid hwb
  have Hn : Hid ((!(List.range E.length).all fun i => !p i) = (List.range E.length).any p) := by
    show _ = _
    rw [Bool.eq_iff_iff]; simp
  clear h hbb hwb c1 l1 hc
  go_enter Try.func104, Try.ntmps104
  go_wp2_with fail
  rw [← Hwb.out]
  refine (all_any _ _ _ wb HM.out hE hpos HP.out).mono ?_
  rintro e w1 ⟨rfl, hb1⟩
  have Hb := Lib.hid (Hbb.out.trans (hb1.mono Hbb.out.size))
  clear hb1
  go_wp2
  go_ret
  exact ⟨ret_bool Hn.out, Hb.out⟩

/-! ### regular elements -/
theorem reg1_any {n : Int} {B g : Nat} {E : List M} {us : List (List Int)} (b1 b2 f i : Nat) (w : World) (h : MonAt n B g E us w) (hE : E.length ≤ 300) (hm : Mnd n E) (hf : f < E.length) (hi : i < E.length)
    (c1 : w.cell? ⟨b1, 0, none⟩ = some (.pointer (some ⟨g, 0, none⟩))) (c2 : w.cell? ⟨b2, 0, none⟩ = some (I f)) :
    Calls Try.prog 145 #[I i, .pointer (some ⟨b1, 0, none⟩), .pointer (some ⟨b2, 0, none⟩)] w fun e w' => e = .returned (.bool (pc E (pc E f i) f == f)) ∧ Below w.heap.size w w' := by
  have H := Lib.hid h
  have C1 := Lib.hid c1
  have C2 := Lib.hid c2
  have l1 := World.block_lt_of_cell? w ⟨b1, 0, none⟩ c1
  have l2 := World.block_lt_of_cell? w ⟨b2, 0, none⟩ c2
  have HP := Lib.hid (fun w' (hS : Below w.heap.size w w') => prod_any f i w' (H.out.below hS (Nat.le_refl _)) hE hm hf hi)
  have HQ := Lib.hid (fun w' (hS : Below w.heap.size w w') => prod_any (pc E f i) f w' (H.out.below hS (Nat.le_refl _)) hE hm (pc_lt hm hf hi) hf)
  obtain ⟨y, hy⟩ : ∃ y, y = pc E (pc E f i) f := ⟨_, rfl⟩
  rw [← hy] at HQ ⊢
  obtain ⟨x, hx⟩ : ∃ x, x = pc E f i := ⟨_, rfl⟩
  rw [← hx] at HP HQ
  clear h c1 c2 hx hy H
  go_enter Try.func145, Try.ntmps145
  go_wp2_with fail
  refine wp_region_same [] rfl (by kernel_rfl) (by kernel_rfl) (by kernel_rfl) (fun w' => Below w.heap.size w w') _
    [.pointer (some ⟨g, 0, none⟩), .pointer (some ⟨g, 0, none⟩), I f, I i, I x, I f, I y, I f, .bool ((y : Int) == (f : Int)), .bool ((y : Int) == (f : Int))]
    (by simp only [putAll, List.setIfInBounds_toArray, List.set_cons_succ, List.set_cons_zero]; rfl) (Below.refl _ _).drew ?hop ?hQ
  case hop =>
    refine FixBL.toL (fun w' w'' hS hb => hS.trans (hb.mono hS.size)) _ _ ?_
    refine ⟨.inr ?_, .inr ?_, .inr ?_, .inr ?_, .inr ?_, .inr ?_, .inr ?_, .inr ?_, .inr ?_, .inr ?_, trivial⟩
    · (with_reducible refine FixB.of ?_ ?_; rfl; intro w' hS; have s0 := (hS.cell (p := ⟨b1, 0, none⟩) l1).trans C1.out; have s1 := (hS.cell (p := ⟨b2, 0, none⟩) l2).trans C2.out; clear hS; unfold Oper.wp; go_simp; first | done | exact Below.refl _ _)
    · (with_reducible refine FixB.of ?_ ?_; rfl; intro w' hS; have s0 := (hS.cell (p := ⟨b1, 0, none⟩) l1).trans C1.out; have s1 := (hS.cell (p := ⟨b2, 0, none⟩) l2).trans C2.out; clear hS; unfold Oper.wp; go_simp; first | done | exact Below.refl _ _)
    · (with_reducible refine FixB.of ?_ ?_; rfl; intro w' hS; have s0 := (hS.cell (p := ⟨b1, 0, none⟩) l1).trans C1.out; have s1 := (hS.cell (p := ⟨b2, 0, none⟩) l2).trans C2.out; clear hS; unfold Oper.wp; go_simp; first | done | exact Below.refl _ _)
    · (with_reducible refine FixB.of ?_ ?_; rfl; intro w' hS; have s0 := (hS.cell (p := ⟨b1, 0, none⟩) l1).trans C1.out; have s1 := (hS.cell (p := ⟨b2, 0, none⟩) l2).trans C2.out; clear hS; unfold Oper.wp; go_simp; first | done | exact Below.refl _ _)
    · (with_reducible refine FixB.of ?_ ?_; rfl; intro w' hS; have s3 := Lib.hid hS; unfold Oper.wp; clear hS; go_simp; refine (HP.out _ s3.out).mono ?_; rintro e w1 ⟨rfl, hb⟩; exact ⟨rfl, hb⟩)
    · (with_reducible refine FixB.of ?_ ?_; rfl; intro w' hS; have s0 := (hS.cell (p := ⟨b1, 0, none⟩) l1).trans C1.out; have s1 := (hS.cell (p := ⟨b2, 0, none⟩) l2).trans C2.out; clear hS; unfold Oper.wp; go_simp; first | done | exact Below.refl _ _)
    · (with_reducible refine FixB.of ?_ ?_; rfl; intro w' hS; have s3 := Lib.hid hS; unfold Oper.wp; clear hS; go_simp; refine (HQ.out _ s3.out).mono ?_; rintro e w1 ⟨rfl, hb⟩; exact ⟨rfl, hb⟩)
    · (with_reducible refine FixB.of ?_ ?_; rfl; intro w' hS; have s0 := (hS.cell (p := ⟨b1, 0, none⟩) l1).trans C1.out; have s1 := (hS.cell (p := ⟨b2, 0, none⟩) l2).trans C2.out; clear hS; unfold Oper.wp; go_simp; first | done | exact Below.refl _ _)
    · (with_reducible refine FixB.of ?_ ?_; rfl; intro w' hS; have s0 := (hS.cell (p := ⟨b1, 0, none⟩) l1).trans C1.out; have s1 := (hS.cell (p := ⟨b2, 0, none⟩) l2).trans C2.out; clear hS; unfold Oper.wp; go_simp; first | done | exact Below.refl _ _)
    · (with_reducible refine FixB.of ?_ ?_; rfl; intro w' hS; have s0 := (hS.cell (p := ⟨b1, 0, none⟩) l1).trans C1.out; have s1 := (hS.cell (p := ⟨b2, 0, none⟩) l2).trans C2.out; clear hS; unfold Oper.wp; go_simp; first | done | exact Below.refl _ _)
  case hQ =>
  intro wc hS _
  have Hb := Lib.hid hS
  clear hS
  go_wp2
  go_ret
  exact ⟨ret_bool (beqc y f), Hb.out⟩
def regB (E : List M) (f : Nat) : Bool := (List.range E.length).any fun i => pc E (pc E f i) f == f
theorem isRegular_any {n : Int} {B g : Nat} {E : List M} {us : List (List Int)} (i : Nat) (w : World) (h : MonAt n B g E us w) (hE : E.length ≤ 300) (hm : Mnd n E) (hi : i < E.length) :
    Calls Try.prog 90 #[.pointer (some ⟨g, 0, none⟩), I i] w fun e w' => e = .returned (.bool (regB E i)) ∧ Below w.heap.size w w' := by
  obtain ⟨wb, hwb⟩ : ∃ wb, wb = (w.alloc (.cells #[.pointer (some ⟨g, 0, none⟩)] 63)).alloc (.cells #[I i] 3) := ⟨_, rfl⟩
  have hbb : Below w.heap.size w wb := by rw [hwb]; exact ((Below.refl _ _).alloc (Nat.le_refl _) _).alloc (by simp) _
  have c1 : wb.cell? ⟨w.heap.size, 0, none⟩ = some (.pointer (some ⟨g, 0, none⟩)) := by rw [hwb]; exact (Blk.alloc (Blk.new w _ _) _).cell 0
  have c2 : wb.cell? ⟨w.heap.size + 1, 0, none⟩ = some (I i) := by rw [hwb]; exact (Blk.new' _ _ _ (by simp)).cell 0
  have l1 := World.block_lt_of_cell? wb ⟨w.heap.size, 0, none⟩ c1
  have l2 := World.block_lt_of_cell? wb ⟨w.heap.size + 1, 0, none⟩ c2
  have HP : Hid (PredC 145 #[.pointer (some ⟨w.heap.size, 0, none⟩), .pointer (some ⟨w.heap.size + 1, 0, none⟩)] E.length (fun k => pc E (pc E i k) i == i) wb) :=
    ⟨enters_of Try.func145 (by kernel_rfl) rfl, fun w' hb' k hk => reg1_any _ _ i k w' ((h.below hbb (Nat.le_refl _)).below hb' (Nat.le_refl _)) hE hm hi hk ((hb'.cell l1).trans c1) ((hb'.cell l2).trans c2)⟩
  have HM := Lib.hid (h.below hbb (Nat.le_refl _))
  have Hbb := Lib.hid hbb
  have Hwb := Lib.hid hwb
  clear h hbb hwb c2 l1 l2
  go_enter Try.func90, Try.ntmps90
  go_wp2_with fail
  rw [← Hwb.out]
  refine (any_any _ _ _ wb HM.out hE (by omega) HP.out).mono ?_
  rintro e w1 ⟨rfl, hb1⟩
  have Hb := Lib.hid (Hbb.out.trans (hb1.mono Hbb.out.size))
  clear hb1
  go_wp2
  go_ret
  exact ⟨rfl, Hb.out⟩
end Go.Proofs.Ytknknljkmkfmoaa
