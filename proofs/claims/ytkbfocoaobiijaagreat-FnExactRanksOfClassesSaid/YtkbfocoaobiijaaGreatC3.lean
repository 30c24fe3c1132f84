/- Contracts: is a map idempotent; no conditions beyond those that each theorem states. -/
import Derived.Test.YtkbfocoaobiijaaGreatC2
import Derived.Deep.RegionHeld3
namespace Go.Proofs.YtkbfocoaobiijaaGreat
open Go.RowKit
set_option maxRecDepth 100000

def isIdem (f : M) : Bool := decide (mul f f = f)

def idemR (f : M) : Bool := isMap f && isIdem f

theorem isIdem_any (f : M) (w : World) (hf : Valid f) :
    Calls Tryz.prog 126 #[.agg (mc f)] w fun e w' => e = .returned (.bool (isIdem f)) ∧ Below w.heap.size w w' := by
  have heq : ∀ w, Sem.run Tryz.prog (Op.equalIn 10000 31 (.agg (mc (mul f f))) (.agg (mc f))) w = .ok (isIdem f) w := eqMap_run _ _
  go_enter Tryz.func126, Tryz.ntmps126
  go_wp2_with fail
  go_region_held3 (fun w' => Six w' w.heap.size f ∧ Below w.heap.size w w') ((first | exact ⟨((Blk.new w _ _).drew).six, by (repeat (first | with_reducible assumption | with_reducible exact Below.refl _ _ | with_reducible refine Below.setCell ?_ (by first | omega | (simp <;> omega)) _ | with_reducible refine Below.alloc ?_ (by first | omega | (simp <;> omega)) _ | with_reducible refine Below.drew ?_ | with_reducible refine Below.drewN ?_ _))⟩ | (obtain ⟨hs, hl⟩ := ‹Six _ w.heap.size f ∧ Below w.heap.size w _›; exact ⟨hs.below hb (by simp), hl.trans (hb.mono (by simp))⟩)))
    ((first | (go_at_call 145; refine (times_any _ _ _ hf).mono ?_; rintro e w1 ⟨rfl, hb⟩)))
  obtain ⟨_, hl⟩ := ‹Six _ w.heap.size f ∧ Below w.heap.size w _›
  go_wp2
  go_ret
  exact ⟨rfl, hl⟩

theorem l01Idem_any (f : M) (w : World) (hf : Valid f) :
    Calls Tryz.prog 127 #[.agg (mc f)] w fun e w' => e = .returned (.bool (isIdem f)) ∧ Below w.heap.size w w' := by
  have heq : ∀ w, Sem.run Tryz.prog (Op.equalIn 10000 31 (.agg (mc (mul f f))) (.agg (mc f))) w = .ok (isIdem f) w := eqMap_run _ _
  go_enter Tryz.func127, Tryz.ntmps127
  go_wp2_with fail
  go_region_held3 (fun w' => Six w' w.heap.size f ∧ Below w.heap.size w w') ((first | exact ⟨((Blk.new w _ _).drew).six, by (repeat (first | with_reducible assumption | with_reducible exact Below.refl _ _ | with_reducible refine Below.setCell ?_ (by first | omega | (simp <;> omega)) _ | with_reducible refine Below.alloc ?_ (by first | omega | (simp <;> omega)) _ | with_reducible refine Below.drew ?_ | with_reducible refine Below.drewN ?_ _))⟩ | (obtain ⟨hs, hl⟩ := ‹Six _ w.heap.size f ∧ Below w.heap.size w _›; exact ⟨hs.below hb (by simp), hl.trans (hb.mono (by simp))⟩)))
    ((first | (go_at_call 177; refine (l01Times_any _ _ _ hf).mono ?_; rintro e w1 ⟨rfl, hb⟩)))
  obtain ⟨_, hl⟩ := ‹Six _ w.heap.size f ∧ Below w.heap.size w _›
  go_wp2
  go_ret
  exact ⟨rfl, hl⟩

theorem SpecIsMap_any (f : M) (w : World) :
    Calls Tryz.prog 68 #[.agg (mc f)] w fun e w' => e = .returned (.bool (isMap f)) ∧ Below w.heap.size w w' := by
  go_enter Tryz.func68, Tryz.ntmps68
  go_wp2_with fail
  refine (l01Is_any _ _).mono ?_
  rintro e w1 ⟨rfl, hb⟩
  go_wp2
  go_ret
  exact ⟨rfl, Below.trans (by (repeat (first | with_reducible assumption | with_reducible exact Below.refl _ _ | with_reducible refine Below.setCell ?_ (by first | omega | (simp <;> omega)) _ | with_reducible refine Below.alloc ?_ (by first | omega | (simp <;> omega)) _ | with_reducible refine Below.drew ?_ | with_reducible refine Below.drewN ?_ _))) (hb.mono (by simp))⟩

end Go.Proofs.YtkbfocoaobiijaaGreat
