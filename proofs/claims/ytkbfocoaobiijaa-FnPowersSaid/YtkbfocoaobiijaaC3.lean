/- Contracts: is a map idempotent; no conditions beyond those that each theorem states. -/
import Derived.Test.YtkbfocoaobiijaaC2
import Derived.Deep.RegionHeld3
namespace Go.Proofs.Ytkbfocoaobiijaa
open Go.RowKit
set_option maxRecDepth 100000

def isIdem (f : M) : Bool := decide (mul f f = f)

def idemR (f : M) : Bool := isMap f && isIdem f

theorem isIdem_any (f : M) (w : World) (hf : Valid f) :
    Calls Try.prog 46 #[.agg (mc f)] w fun e w' => e = .returned (.bool (isIdem f)) ∧ Below w.heap.size w w' := by
  have heq : ∀ w, Sem.run Try.prog (Op.equalIn 10000 26 (.agg (mc (mul f f))) (.agg (mc f))) w = .ok (isIdem f) w := eqMap_run _ _
  go_enter Try.func46, Try.ntmps46
  go_wp2_with fail
  go_region_held3 (fun w' => Six w' w.heap.size f ∧ Below w.heap.size w w') ((first | exact ⟨((Blk.new w _ _).drew).six, by (repeat (first | with_reducible assumption | with_reducible exact Below.refl _ _ | with_reducible refine Below.setCell ?_ (by first | omega | (simp <;> omega)) _ | with_reducible refine Below.alloc ?_ (by first | omega | (simp <;> omega)) _ | with_reducible refine Below.drew ?_ | with_reducible refine Below.drewN ?_ _))⟩ | (obtain ⟨hs, hl⟩ := ‹Six _ w.heap.size f ∧ Below w.heap.size w _›; exact ⟨hs.below hb (by simp), hl.trans (hb.mono (by simp))⟩)))
    ((first | (go_at_call 47; refine (times_any _ _ _ hf).mono ?_; rintro e w1 ⟨rfl, hb⟩)))
  obtain ⟨_, hl⟩ := ‹Six _ w.heap.size f ∧ Below w.heap.size w _›
  go_wp2
  go_ret
  exact ⟨rfl, hl⟩

theorem l01Idem_any (f : M) (w : World) (hf : Valid f) :
    Calls Try.prog 69 #[.agg (mc f)] w fun e w' => e = .returned (.bool (isIdem f)) ∧ Below w.heap.size w w' := by
  have heq : ∀ w, Sem.run Try.prog (Op.equalIn 10000 26 (.agg (mc (mul f f))) (.agg (mc f))) w = .ok (isIdem f) w := eqMap_run _ _
  go_enter Try.func69, Try.ntmps69
  go_wp2_with fail
  go_region_held3 (fun w' => Six w' w.heap.size f ∧ Below w.heap.size w w') ((first | exact ⟨((Blk.new w _ _).drew).six, by (repeat (first | with_reducible assumption | with_reducible exact Below.refl _ _ | with_reducible refine Below.setCell ?_ (by first | omega | (simp <;> omega)) _ | with_reducible refine Below.alloc ?_ (by first | omega | (simp <;> omega)) _ | with_reducible refine Below.drew ?_ | with_reducible refine Below.drewN ?_ _))⟩ | (obtain ⟨hs, hl⟩ := ‹Six _ w.heap.size f ∧ Below w.heap.size w _›; exact ⟨hs.below hb (by simp), hl.trans (hb.mono (by simp))⟩)))
    ((first | (go_at_call 72; refine (l01Times_any _ _ _ hf).mono ?_; rintro e w1 ⟨rfl, hb⟩)))
  obtain ⟨_, hl⟩ := ‹Six _ w.heap.size f ∧ Below w.heap.size w _›
  go_wp2
  go_ret
  exact ⟨rfl, hl⟩

theorem ImplIsIdem_any (f : M) (w : World) :
    Calls Try.prog 16 #[.agg (mc f)] w fun e w' => e = .returned (.tuple #[.bool (idemR f), I (cInv (isMap f))]) ∧ Below w.heap.size w w' := by
  cases hm : isMap f
  · go_enter Try.func16, Try.ntmps16
    go_wp2_with (go_at_call 38; refine (isMap_any _ _).mono ?_; rintro e w1 ⟨rfl, hb⟩)
    go_ret2
    exact ⟨by simp [idemR, hm, cInv], Below.trans (by (repeat (first | with_reducible assumption | with_reducible exact Below.refl _ _ | with_reducible refine Below.setCell ?_ (by first | omega | (simp <;> omega)) _ | with_reducible refine Below.alloc ?_ (by first | omega | (simp <;> omega)) _ | with_reducible refine Below.drew ?_ | with_reducible refine Below.drewN ?_ _))) (hb.mono (by simp))⟩
  · have hf := (isMap_iff f).1 hm
    go_enter Try.func16, Try.ntmps16
    go_wp2_with fail
    refine (isMap_any _ _).mono ?_
    rintro e w1 ⟨rfl, hb⟩
    have hl : Below w.heap.size w w1 := Below.trans (by (repeat (first | with_reducible assumption | with_reducible exact Below.refl _ _ | with_reducible refine Below.setCell ?_ (by first | omega | (simp <;> omega)) _ | with_reducible refine Below.alloc ?_ (by first | omega | (simp <;> omega)) _ | with_reducible refine Below.drew ?_ | with_reducible refine Below.drewN ?_ _))) (hb.mono (by simp))
    have hs : Six w1 w.heap.size f := Six.below (Blk.six (Blk.new w _ _)) hb (by simp)
    clear hb
    go_wp2_with (go_at_call 46; refine (isIdem_any _ _ hf).mono ?_; rintro e w1 ⟨rfl, hb⟩)
    go_ret2
    exact ⟨by simp [idemR, hm, cInv], hl.trans (hb.mono hl.size)⟩

theorem SpecIsIdem_any (f : M) (w : World) :
    Calls Try.prog 33 #[.agg (mc f)] w fun e w' => e = .returned (.tuple #[.bool (idemR f), I (cInv (isMap f))]) ∧ Below w.heap.size w w' := by
  cases hm : isMap f
  · go_enter Try.func33, Try.ntmps33
    go_wp2_with (go_at_call 41; refine (l01Is_any _ _).mono ?_; rintro e w1 ⟨rfl, hb⟩)
    go_ret2
    exact ⟨by simp [idemR, hm, cInv], Below.trans (by (repeat (first | with_reducible assumption | with_reducible exact Below.refl _ _ | with_reducible refine Below.setCell ?_ (by first | omega | (simp <;> omega)) _ | with_reducible refine Below.alloc ?_ (by first | omega | (simp <;> omega)) _ | with_reducible refine Below.drew ?_ | with_reducible refine Below.drewN ?_ _))) (hb.mono (by simp))⟩
  · have hf := (isMap_iff f).1 hm
    go_enter Try.func33, Try.ntmps33
    go_wp2_with fail
    refine (l01Is_any _ _).mono ?_
    rintro e w1 ⟨rfl, hb⟩
    have hl : Below w.heap.size w w1 := Below.trans (by (repeat (first | with_reducible assumption | with_reducible exact Below.refl _ _ | with_reducible refine Below.setCell ?_ (by first | omega | (simp <;> omega)) _ | with_reducible refine Below.alloc ?_ (by first | omega | (simp <;> omega)) _ | with_reducible refine Below.drew ?_ | with_reducible refine Below.drewN ?_ _))) (hb.mono (by simp))
    have hs : Six w1 w.heap.size f := Six.below (Blk.six (Blk.new w _ _)) hb (by simp)
    clear hb
    go_wp2_with (go_at_call 69; refine (l01Idem_any _ _ hf).mono ?_; rintro e w1 ⟨rfl, hb⟩)
    go_ret2
    exact ⟨by simp [idemR, hm, cInv], hl.trans (hb.mono hl.size)⟩

end Go.Proofs.Ytkbfocoaobiijaa
