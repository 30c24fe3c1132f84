/- How the arguments of the statements read: maps by value, and the common end of each statement; no conditions. -/
import Derived.Test.YtkbfocoaobiijaaRows
import Derived.Test.YtkbfocoaobiijaaBase
import Derived.ProofKit
import Derived.OpenShut
import Derived.ShutString
import Derived.ChangeOld
namespace Go.Proofs.Ytkbfocoaobiijaa
open Go.ChangeShapes Go.WideShapes Go.ChangeAt Go.RowKit
open Go.ChangeMaps (open_string shut_string)
set_option maxRecDepth 100000

theorem ownKnob0 : ownKnob Try.prog.godebug = none := by kernel_rfl
theorem laidOut : laidOutB Try.prog = true := by kernel_rfl

theorem cellsT5 : Try.prog.cellsOf 24 = 5 := by kernel_rfl
theorem cellsTI : Try.prog.cellsOf 2 = 1 := by kernel_rfl

section
variable {H : Type} {enc : TypeId × Value → H} {w : World} {base : Nat} {spare : Nat → Bool} {held : Bool}
theorem wf64 {n : Int} (h : (Lit.int .i64 n).wf = true) : -9223372036854775808 ≤ n ∧ n ≤ 9223372036854775807 := by
  simp [Lit.wf, IntKind.min, IntKind.max, IntKind.signed, IntKind.bits] at h
  omega
theorem list6 {α : Type} {l : List α} (h : l.length = 6) : ∃ a b c d e f, l = [a, b, c, d, e, f] := by
  match l, h with
  | [a, b, c, d, e, f], _ => exact ⟨a, b, c, d, e, f, rfl⟩

def Fits (m : M) : Prop := (-9223372036854775808 ≤ m.p ∧ m.p ≤ 9223372036854775807) ∧ ∀ k, k < 5 → -9223372036854775808 ≤ m.at k ∧ m.at k ≤ 9223372036854775807

end

/-- how each statement's walk is turned into the row -/
def Law (f : FuncId) (args : Array Value) (W : World) : Prop := Calls Try.prog f args W fun e w' => e = .returned (.bool true) ∧ Below W.heap.size W w'

/-! ### the program's make: its order of starting is a long text, read once -/
theorem viaL {P : List Char → Prop} {s : String} {L : List Char} (h : s = String.ofList L) (hp : P L) : P s.toList := by rw [h, String.toList_ofList]; exact hp
theorem make_of {P : Program} {rest : List (List Char)} (h : behindMainWord (wordsSigns P.initOrder.toList) = "cut".toList :: rest) : P.make = some .cut := by
  unfold Program.make
  rw [h]
  kernel_rfl
theorem mayEnter_of {P : Program} {rest : List (List Char)} (h : behindMainWord (wordsSigns P.initOrder.toList) = "cut".toList :: rest) (h1 : P.laysLater = false) (h2 : P.bearsReflect = false) (h3 : P.doorFits [] = true) : P.mayEnter = true := by
  unfold Program.mayEnter
  rw [h]
  have e : stripLifts liftWords ("cut".toList :: rest) = ([], "cut".toList :: rest) := by kernel_rfl
  simp only [e, h1, h2, h3]
  simp
theorem lifts_of {P : Program} {rest : List (List Char)} (h : behindMainWord (wordsSigns P.initOrder.toList) = "cut".toList :: rest) : P.liftsFinal = false := by
  unfold Program.liftsFinal Program.headLifts
  rw [h]
  kernel_rfl
theorem wordsI : ∃ rest, behindMainWord (wordsSigns Try.pinned.checked.prog.initOrder.toList) = "cut".toList :: rest :=
  ⟨_, viaL (P := fun l => behindMainWord (wordsSigns l) = "cut".toList :: (behindMainWord (wordsSigns l)).tail) (s := Try.prog.initOrder) rfl (by kernel_rfl)⟩
theorem makeT : Try.pinned.checked.prog.make = some .cut := by
  obtain ⟨r, h⟩ := wordsI
  exact make_of h
theorem mayEnterT : Try.pinned.checked.prog.mayEnter = true := by
  obtain ⟨r, h⟩ := wordsI
  exact mayEnter_of h (by kernel_rfl) (by kernel_rfl) (by kernel_rfl)
theorem liftsT : Try.pinned.checked.prog.liftsFinal = false := by
  obtain ⟨r, h⟩ := wordsI
  exact lifts_of h
theorem laidT : laidOutB Try.pinned.checked.prog = true := by kernel_rfl
end Go.Proofs.Ytkbfocoaobiijaa
