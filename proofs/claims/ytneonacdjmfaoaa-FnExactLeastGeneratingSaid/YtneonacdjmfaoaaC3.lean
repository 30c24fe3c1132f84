/- Contracts: is a map idempotent; no conditions beyond those that each theorem states. -/
import Derived.Test.YtneonacdjmfaoaaC2
import Derived.Deep.RegionHeld3
namespace Go.Proofs.Ytneonacdjmfaoaa
open Go.RowKit
set_option maxRecDepth 100000

def isIdem (f : M) : Bool := decide (mul f f = f)

def idemR (f : M) : Bool := isMap f && isIdem f

theorem isIdem_any (f : M) (w : World) (hf : Valid f) :
    Calls Try.prog 61 #[.agg (mc f)] w fun e w' => e = .returned (.bool (isIdem f)) ∧ Below w.heap.size w w' := by
  have heq : ∀ w, Sem.run Try.prog (Op.equalIn 10000 39 (.agg (mc (mul f f))) (.agg (mc f))) w = .ok (isIdem f) w := eqMap_run _ _
  go_enter Try.func61, Try.ntmps61
  go_wp2_with fail
  go_region_held3 (fun w' => Six w' w.heap.size f ∧ Below w.heap.size w w') ((first | exact ⟨((Blk.new w _ _).drew).six, by (repeat (first | with_reducible assumption | with_reducible exact Below.refl _ _ | with_reducible refine Below.setCell ?_ (by first | omega | (simp <;> omega)) _ | with_reducible refine Below.alloc ?_ (by first | omega | (simp <;> omega)) _ | with_reducible refine Below.drew ?_ | with_reducible refine Below.drewN ?_ _))⟩ | (obtain ⟨hs, hl⟩ := ‹Six _ w.heap.size f ∧ Below w.heap.size w _›; exact ⟨hs.below hb (by simp), hl.trans (hb.mono (by simp))⟩)))
    ((first | (go_at_call 78; refine (times_any _ _ _ hf).mono ?_; rintro e w1 ⟨rfl, hb⟩)))
  obtain ⟨_, hl⟩ := ‹Six _ w.heap.size f ∧ Below w.heap.size w _›
  go_wp2
  go_ret
  exact ⟨rfl, hl⟩

theorem l01Idem_any (f : M) (w : World) (hf : Valid f) :
    Calls Try.prog 57 #[.agg (mc f)] w fun e w' => e = .returned (.bool (isIdem f)) ∧ Below w.heap.size w w' := by
  have heq : ∀ w, Sem.run Try.prog (Op.equalIn 10000 39 (.agg (mc (mul f f))) (.agg (mc f))) w = .ok (isIdem f) w := eqMap_run _ _
  go_enter Try.func57, Try.ntmps57
  go_wp2_with fail
  go_region_held3 (fun w' => Six w' w.heap.size f ∧ Below w.heap.size w w') ((first | exact ⟨((Blk.new w _ _).drew).six, by (repeat (first | with_reducible assumption | with_reducible exact Below.refl _ _ | with_reducible refine Below.setCell ?_ (by first | omega | (simp <;> omega)) _ | with_reducible refine Below.alloc ?_ (by first | omega | (simp <;> omega)) _ | with_reducible refine Below.drew ?_ | with_reducible refine Below.drewN ?_ _))⟩ | (obtain ⟨hs, hl⟩ := ‹Six _ w.heap.size f ∧ Below w.heap.size w _›; exact ⟨hs.below hb (by simp), hl.trans (hb.mono (by simp))⟩)))
    ((first | (go_at_call 69; refine (l01Times_any _ _ _ hf).mono ?_; rintro e w1 ⟨rfl, hb⟩)))
  obtain ⟨_, hl⟩ := ‹Six _ w.heap.size f ∧ Below w.heap.size w _›
  go_wp2
  go_ret
  exact ⟨rfl, hl⟩

end Go.Proofs.Ytneonacdjmfaoaa
