/- Contracts of the statements' own helpers on lists of numbers: equality, marks, copies; the lists are shorter than 2^30. -/
import Derived.Test.YtkbfocoaobiijaaC2
import Derived.Test.YtkbfocoaobiijaaSl
import Derived.WalkSpells
namespace Go.Proofs.Ytkbfocoaobiijaa
open Go.RowKit
set_option maxRecDepth 100000

theorem ext_gi {xs ys : List Int} (hl : xs.length = ys.length) (h : ∀ k, k < xs.length → gi xs k = gi ys k) : xs = ys := by
  refine List.ext_getElem hl fun k h1 h2 => ?_
  have := h k h1
  rwa [gi_eq h1, gi_eq h2] at this

/-- k, k+1, .. -/
def marks (n : Nat) (k : Int) : List Int := (List.range n).map fun (i : Nat) => k + i
theorem marks_length (n : Nat) (k : Int) : (marks n k).length = n := by simp [marks]
theorem gi_marks {n : Nat} {k : Int} {j : Nat} (hj : j < n) : gi (marks n k) j = k + j := by simp [gi, marks, List.getD, hj]
/-- the first j are marked -/
def markTo (zs : List Int) (k : Int) (j : Nat) : List Int := marks j k ++ zs.drop j
theorem markTo_zero (zs : List Int) (k : Int) : markTo zs k 0 = zs := by simp [markTo, marks]
theorem markTo_all (zs : List Int) (k : Int) : markTo zs k zs.length = marks zs.length k := by simp [markTo]
theorem markTo_length {zs : List Int} {k : Int} {j : Nat} (hj : j ≤ zs.length) : (markTo zs k j).length = zs.length := by simp [markTo, marks_length]; omega
theorem markTo_set {zs : List Int} {k : Int} {j : Nat} (hj : j < zs.length) : (markTo zs k j).set j (k + j) = markTo zs k (j + 1) := by
  unfold markTo
  rw [List.set_append_right _ _ (by rw [marks_length]; omega), marks_length, Nat.sub_self, List.drop_eq_getElem_cons hj, List.set_cons_zero]
  simp [marks, List.range_succ]

/-- the first j numbers of zs, then zeros -/
def copyTo (zs : List Int) (j : Nat) : List Int := zs.take j ++ List.replicate (zs.length - j) 0
theorem copyTo_zero (zs : List Int) : copyTo zs 0 = List.replicate zs.length 0 := by simp [copyTo]
theorem copyTo_all (zs : List Int) : copyTo zs zs.length = zs := by simp [copyTo]
theorem copyTo_length {zs : List Int} {j : Nat} (hj : j ≤ zs.length) : (copyTo zs j).length = zs.length := by simp [copyTo]; omega
theorem copyTo_set {zs : List Int} {j : Nat} (hj : j < zs.length) : (copyTo zs j).set j (gi zs j) = copyTo zs (j + 1) := by
  unfold copyTo
  have hl : (zs.take j).length = j := by simp; omega
  rw [List.set_append_right _ _ (by omega), hl, Nat.sub_self, gi_eq hj, List.take_succ_eq_append_getElem hj]
  have : zs.length - j = (zs.length - (j + 1)) + 1 := by omega
  rw [this, List.replicate_succ, List.set_cons_zero, List.append_assoc]
  rfl

theorem madeI {w : World} {B : Nat} {v : Value} {n : Nat} (h : w.ownsRow B 2 1 v n (madeCells (Value.int .i64 0).cells (n * 1)).toList) : OwI 2 w B v (List.replicate n 0) := by
  rw [Nat.mul_one, show (Value.int .i64 0).cells = #[.int .i64 0] from rfl, toList_madeCells_one] at h
  unfold OwI
  simpa [cI] using h

def eq5 (a b : M) : Bool := (List.range 5).all fun k => decide (a.at k = b.at k)
theorem eq5_true {a b : M} (h : ∀ k, k < 5 → a.at k = b.at k) : eq5 a b = true := by
  simp only [eq5, List.all_eq_true]; intro j hj; exact decide_eq_true (h j (by simpa using hj))
theorem eq5_false {a b : M} {k : Nat} (hk : k < 5) (h : ¬ a.at k = b.at k) : eq5 a b = false := by
  unfold eq5; rw [List.all_eq_false]; exact ⟨k, by simpa using hk, by simpa using h⟩
theorem eq5_iff {a b : M} : eq5 a b = true ↔ ∀ k, k < 5 → a.at k = b.at k := by
  simp [eq5]

end Go.Proofs.Ytkbfocoaobiijaa
