/- How the arguments of the statements read: maps by value, and the common end of each statement; no conditions. -/
import Derived.Test.YtkbfocoaobiijaaGreatRows
import Derived.Test.YtkbfocoaobiijaaGreatBase
import Derived.ProofKit
import Derived.OpenShut
import Derived.ShutString
import Derived.ChangeOld
namespace Go.Proofs.YtkbfocoaobiijaaGreat
open Go.ChangeShapes Go.WideShapes Go.ChangeAt Go.RowKit
open Go.ChangeMaps (open_string shut_string)
set_option maxRecDepth 100000

theorem ownKnob0 : ownKnob Tryz.prog.godebug = none := by kernel_rfl
theorem laidOut : laidOutB Tryz.prog = true := by kernel_rfl
theorem cellsLM : Tryz.prog.cellsOf 169 = 6 := by kernel_rfl
theorem cellsT5 : Tryz.prog.cellsOf 29 = 5 := by kernel_rfl
theorem cellsTI : Tryz.prog.cellsOf 2 = 1 := by kernel_rfl

section
variable {H : Type} {enc : TypeId × Value → H} {w : World} {base : Nat} {spare : Nat → Bool} {held : Bool}
theorem wf64 {n : Int} (h : (Lit.int .i64 n).wf = true) : -9223372036854775808 ≤ n ∧ n ≤ 9223372036854775807 := by
  simp [Lit.wf, IntKind.min, IntKind.max, IntKind.signed, IntKind.bits] at h
  omega
theorem list6 {α : Type} {l : List α} (h : l.length = 6) : ∃ a b c d e f, l = [a, b, c, d, e, f] := by
  match l, h with
  | [a, b, c, d, e, f], _ => exact ⟨a, b, c, d, e, f, rfl⟩

def Fits (m : M) : Prop := (-9223372036854775808 ≤ m.p ∧ m.p ≤ 9223372036854775807) ∧ ∀ k, k < 5 → -9223372036854775808 ≤ m.at k ∧ m.at k ≤ 9223372036854775807

/-- six cells that read as a map -/
theorem cells_map {fuel : Nat} {cs : List Value} {x : DataW H × List MemPlace} (h : DataW.trod enc Tryz.prog w base spare held fuel 169 cs = some x) : ∃ m : M, cs = (mc m).toList ∧ Fits m := by
  obtain ⟨xs, n, _, _, hlen, _, hg⟩ := DataW.trod_struct Tryz.underlying169 h
  rw [cellsLM] at hlen
  obtain ⟨c0, c1, c2, c3, c4, c5, rfl⟩ := list6 hlen
  have h0 := hg 0 _ rfl
  have h1 := hg 1 _ rfl
  change DataW.trod enc Tryz.prog w base spare held n 2 (([c0, c1, c2, c3, c4, c5].drop 0).take (Tryz.prog.cellsOf 2)) = xs[0]? at h0
  change DataW.trod enc Tryz.prog w base spare held n 29 (([c0, c1, c2, c3, c4, c5].drop 1).take (Tryz.prog.cellsOf 29)) = xs[1]? at h1
  rw [cellsTI] at h0
  rw [cellsT5] at h1
  obtain ⟨y0, hy0⟩ : ∃ y, xs[0]? = some y := ⟨_, List.getElem?_eq_getElem (by simp_all)⟩
  obtain ⟨y1, hy1⟩ : ∃ y, xs[1]? = some y := ⟨_, List.getElem?_eq_getElem (by simp_all)⟩
  obtain ⟨n0, e0, _, w0⟩ := DataW.trod_int Tryz.underlying2 (h0.trans hy0)
  obtain ⟨ys, m, _, _, _, hyl, hel⟩ := DataW.trod_array Tryz.underlying29 (h1.trans hy1)
  rw [cellsTI] at hel
  have el : ∀ i (hi : i < 5), ∃ k, (([c0, c1, c2, c3, c4, c5].drop 1).take 5 |>.drop (i * 1) |>.take 1) = [Value.int .i64 k] ∧ (Lit.int .i64 k).wf = true := by
    intro i hi
    obtain ⟨y, hy⟩ : ∃ y, ys[i]? = some y := ⟨_, List.getElem?_eq_getElem (by omega)⟩
    obtain ⟨k, e, _, wk⟩ := DataW.trod_int Tryz.underlying2 ((hel i hi).trans hy)
    exact ⟨k, e, wk⟩
  obtain ⟨k0, e1, w1⟩ := el 0 (by decide)
  obtain ⟨k1, e2, w2⟩ := el 1 (by decide)
  obtain ⟨k2, e3, w3⟩ := el 2 (by decide)
  obtain ⟨k3, e4, w4⟩ := el 3 (by decide)
  obtain ⟨k4, e5, w5⟩ := el 4 (by decide)
  simp at e0 e1 e2 e3 e4 e5
  subst e0 e1 e2 e3 e4 e5
  exact ⟨⟨n0, k0, k1, k2, k3, k4⟩, rfl, wf64 w0, five (P := fun k => -9223372036854775808 ≤ M.at ⟨n0, k0, k1, k2, k3, k4⟩ k ∧ M.at ⟨n0, k0, k1, k2, k3, k4⟩ k ≤ 9223372036854775807) (wf64 w1) (wf64 w2) (wf64 w3) (wf64 w4) (wf64 w5)⟩

/-- an argument that is a map by value -/
theorem open_map {r : Reach} {b0 : Nat} {v : Value} {d : DataW H} {p : List MemPlace} (hv : Value.okWide Tryz.prog w r b0 169 v) (h : DataW.Trod enc Tryz.prog w base spare held 169 v d p) : ∃ m : M, v = .agg (mc m) ∧ Fits m := by
  obtain ⟨cs, rfl, _⟩ := okWide_struct Tryz.underlying169 hv
  obtain ⟨fuel, hf⟩ := h
  obtain ⟨m, hm, hw⟩ := cells_map hf
  refine ⟨m, ?_, hw⟩
  have : cs = mc m := by apply Array.toList_inj.1; simpa [Value.cells] using hm
  rw [this]
end

/-- how each statement's walk is turned into the row -/
def Law (f : FuncId) (args : Array Value) (W : World) : Prop := Calls Tryz.prog f args W fun e w' => e = .returned (.bool true) ∧ Below W.heap.size W w'

/-! ### the program's make: its order of starting is a long text, read once -/
theorem viaL {P : List Char → Prop} {s : String} {L : List Char} (h : s = String.ofList L) (hp : P L) : P s.toList := by rw [h, String.toList_ofList]; exact hp
theorem make_of {P : Program} {rest : List (List Char)} (h : behindMainWord (wordsSigns P.initOrder.toList) = "cut".toList :: rest) : P.make = some .cut := by
  unfold Program.make
  rw [h]
  kernel_rfl
theorem mayEnter_of {P : Program} {rest : List (List Char)} (h : behindMainWord (wordsSigns P.initOrder.toList) = "cut".toList :: rest) (h1 : P.laysLater = false) (h2 : P.bearsReflect = false) (h3 : P.doorFits [] = true) : P.mayEnter = true := by
  unfold Program.mayEnter
  rw [h]
  have e : stripLifts liftWords ("cut".toList :: rest) = ([], "cut".toList :: rest) := by kernel_rfl
  simp only [e, h1, h2, h3]
  simp
theorem lifts_of {P : Program} {rest : List (List Char)} (h : behindMainWord (wordsSigns P.initOrder.toList) = "cut".toList :: rest) : P.liftsFinal = false := by
  unfold Program.liftsFinal Program.headLifts
  rw [h]
  kernel_rfl
theorem wordsI : ∃ rest, behindMainWord (wordsSigns Tryz.pinned.checked.prog.initOrder.toList) = "cut".toList :: rest :=
  ⟨_, viaL (P := fun l => behindMainWord (wordsSigns l) = "cut".toList :: (behindMainWord (wordsSigns l)).tail) (s := Tryz.prog.initOrder) rfl (by kernel_rfl)⟩
theorem makeT : Tryz.pinned.checked.prog.make = some .cut := by
  obtain ⟨r, h⟩ := wordsI
  exact make_of h
theorem mayEnterT : Tryz.pinned.checked.prog.mayEnter = true := by
  obtain ⟨r, h⟩ := wordsI
  exact mayEnter_of h (by kernel_rfl) (by kernel_rfl) (by kernel_rfl)
theorem liftsT : Tryz.pinned.checked.prog.liftsFinal = false := by
  obtain ⟨r, h⟩ := wordsI
  exact lifts_of h
theorem laidT : laidOutB Tryz.pinned.checked.prog = true := by kernel_rfl
end Go.Proofs.YtkbfocoaobiijaaGreat
