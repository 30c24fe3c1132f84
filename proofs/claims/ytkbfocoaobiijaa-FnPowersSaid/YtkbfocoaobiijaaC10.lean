/- Contracts of comparisons: of numbers, of lists, of maps; the maps are valid where the theorems say so. -/
import Derived.Test.YtkbfocoaobiijaaC3
import Derived.Test.YtkbfocoaobiijaaC5
import Derived.Test.YtkbfocoaobiijaaC7
import Derived.Test.YtkbfocoaobiijaaS1
import Derived.Test.YtkbfocoaobiijaaReg
import Derived.Deep.QuietTactic
import Derived.BigQuiet
namespace Go.Proofs.Ytkbfocoaobiijaa
open Go.RowKit
set_option maxRecDepth 100000

def cmpI (a b : Int) : Int := if a < b then -1 else if b < a then 1 else 0
theorem cmpI_lt {a b : Int} (h : a < b) : cmpI a b = -1 := by simp [cmpI, h]
theorem cmpI_gt {a b : Int} (h : b < a) : cmpI a b = 1 := by rw [cmpI, if_neg (by omega), if_pos h]
theorem cmpI_eq {a b : Int} (h : a = b) : cmpI a b = 0 := by rw [cmpI, if_neg (by omega), if_neg (by omega)]
theorem cmpI_bd (a b : Int) : -1 ≤ cmpI a b ∧ cmpI a b ≤ 1 := by unfold cmpI; split <;> (try split) <;> omega
theorem cmpI_ne {a b : Int} : cmpI a b ≠ 0 ↔ a ≠ b := by unfold cmpI; split <;> (try split) <;> omega
theorem cmpI_neg {a b : Int} : cmpI a b = -1 ↔ a < b := by unfold cmpI; split <;> (try split) <;> omega
theorem cmpI_swap (a b : Int) : cmpI b a = - cmpI a b := by unfold cmpI; split <;> (try split) <;> (try split) <;> omega

theorem isNaN2 (x : Int) (w : World) : Calls Try.prog 102 #[I x] w fun e w' => e = .returned (.bool false) ∧ w = w' := by
  have h : (x != x) = false := by simp
  go_enter Try.func102, Try.ntmps102
  go_wp2
  go_ret
  exact ⟨by simp, rfl⟩

/-- lists in the order of a dictionary -/
def cmpL : List Int → List Int → Int
  | [], [] => 0
  | [], _ :: _ => -1
  | _ :: _, [] => 1
  | x :: xs, y :: ys => if cmpI x y = 0 then cmpL xs ys else cmpI x y
theorem cmpL_at : ∀ {k : Nat} {xs ys : List Int}, k < xs.length → k < ys.length → (∀ j, j < k → gi xs j = gi ys j) → gi xs k ≠ gi ys k → cmpL xs ys = cmpI (gi xs k) (gi ys k)
  | _, [], _, h, _, _, _ => by simp at h
  | _, _ :: _, [], _, h, _, _ => by simp at h
  | 0, x :: xs, y :: ys, _, _, _, hne => by
    have : x ≠ y := by simpa [gi] using hne
    rw [cmpL, if_neg (cmpI_ne.2 this)]; rfl
  | k + 1, x :: xs, y :: ys, h1, h2, he, hne => by
    have h0 : x = y := by simpa [gi] using he 0 (by omega)
    rw [cmpL, if_pos (cmpI_eq h0), cmpL_at (k := k) (by simpa using h1) (by simpa using h2) (fun j hj => by simpa [gi] using he (j + 1) (by omega)) (by simpa [gi] using hne)]
    simp [gi]
theorem cmpL_pre : ∀ {xs ys : List Int}, (∀ j, j < xs.length → j < ys.length → gi xs j = gi ys j) → cmpL xs ys = cmpI xs.length ys.length
  | [], [], _ => by simp [cmpL, cmpI]
  | [], _ :: _, _ => by rw [cmpL, cmpI_lt]; simp
  | _ :: _, [], _ => by rw [cmpL, cmpI_gt]; simp
  | x :: xs, y :: ys, h => by
    have h0 : x = y := by simpa [gi] using h 0 (by simp) (by simp)
    rw [cmpL, if_pos (cmpI_eq h0), cmpL_pre (fun j h1 h2 => by simpa [gi] using h (j + 1) (by simpa using h1) (by simpa using h2))]
    unfold cmpI
    simp

/-- the first of two numbers that is not zero -/
def or2 (a b : Int) : Int := if a = 0 then b else a

/-- maps in their order -/
def cmpM (f g : M) : Int := or2 (cmpI f.p g.p) (cmpL (imgs f 5) (imgs g 5))
theorem rd_six {w : World} {g : Nat} {f : M} {B : Nat} (h : Six w g f) (hg : g < B) : RdI w B (some ⟨g, 1, none⟩) (imgs f 5) := by
  refine ⟨by simp [cI], fun _ => ⟨g, 1, rfl, hg, fun j u hu => ?_⟩⟩
  have hj : j < (imgs f 5).length := by
    rcases Nat.lt_or_ge j (imgs f 5).length with h | h
    · exact h
    · rw [List.getElem?_eq_none (by rw [cI_length]; exact h)] at hu; cases hu
  rw [imgs_length] at hj
  match j, hj with
  | 0, _ => exact h.2.1.trans hu
  | 1, _ => exact h.2.2.1.trans hu
  | 2, _ => exact h.2.2.2.1.trans hu
  | 3, _ => exact h.2.2.2.2.1.trans hu
  | 4, _ => exact h.2.2.2.2.2.trans hu

end Go.Proofs.Ytkbfocoaobiijaa
