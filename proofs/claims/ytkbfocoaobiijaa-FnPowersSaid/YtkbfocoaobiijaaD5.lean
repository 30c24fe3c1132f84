/- Contracts of the tests on sets of points; no conditions beyond those that each theorem states. -/
import Derived.Test.YtkbfocoaobiijaaC3
import Derived.Test.YtkbfocoaobiijaaSl
import Derived.Deep.QuietTactic
import Derived.BigQuiet
import Derived.IntWalk
namespace Go.Proofs.Ytkbfocoaobiijaa
open Go.RowKit
set_option maxRecDepth 100000

def okAt (p : Int) (zs : List Int) (k : Nat) : Bool := inR (gi zs k) 0 (p - 1) && (decide (k = 0) || decide (gi zs (k - 1) < gi zs k))
/-- a list of different points, ascending -/
def isSetB (p : Int) (zs : List Int) : Bool := (List.range zs.length).all (okAt p zs)

theorem isSetB_false {p : Int} {zs : List Int} {k : Nat} (hk : k < zs.length) (h : okAt p zs k = false) : isSetB p zs = false := by
  unfold isSetB; rw [List.all_eq_false]; exact ⟨k, by simpa using hk, by simp [h]⟩
theorem isSetB_true {p : Int} {zs : List Int} (h : ∀ j, j < zs.length → okAt p zs j = true) : isSetB p zs = true := by
  simp only [isSetB, List.all_eq_true]; intro j hj; exact h j (by simpa using hj)
theorem isSetB_iff {p : Int} {zs : List Int} : isSetB p zs = true ↔ ∀ j, j < zs.length → okAt p zs j = true := by simp [isSetB]

/-- the code of a map and a set -/
def codeSet (f : M) (zs : List Int) : Int := if isMap f then (if isSetB f.p zs then 0 else 2) else 1

theorem codeSet_bad {f : M} {zs : List Int} (h : isMap f = false) : codeSet f zs = 1 := by simp [codeSet, h]
theorem codeSet_no {f : M} {zs : List Int} (h : isMap f = true) (hs : isSetB f.p zs = false) : codeSet f zs = 2 := by simp [codeSet, h, hs]
theorem codeSet_yes {f : M} {zs : List Int} (h : isMap f = true) (hs : isSetB f.p zs = true) : codeSet f zs = 0 := by simp [codeSet, h, hs]
theorem codeSet_zero {f : M} {zs : List Int} : codeSet f zs = 0 ↔ isMap f = true ∧ isSetB f.p zs = true := by
  unfold codeSet
  cases isMap f <;> cases isSetB f.p zs <;> simp

theorem l01In_q {n l h : Int} {b : Bool} (hv : inR n l h = b) (w : World) (m : Nat) :
    Calls Try.prog 42 #[.int .i64 n, .int .i64 l, .int .i64 h] (w.drewN m) fun e w'' => e = .returned (.bool b) ∧ ∃ k, w'' = w.drewN k :=
  (l01In_any n l h _).mono fun _ _ hh => ⟨by rw [hh.1, hv], m, hh.2.symm⟩

end Go.Proofs.Ytkbfocoaobiijaa
