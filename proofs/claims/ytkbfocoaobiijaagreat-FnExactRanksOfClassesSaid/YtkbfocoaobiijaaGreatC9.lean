/- Contracts of powers; the maps are valid as each theorem states. -/
import Derived.Test.YtkbfocoaobiijaaGreatC3
import Derived.Test.YtkbfocoaobiijaaGreatPow
import Derived.Test.YtkbfocoaobiijaaGreatS1
namespace Go.Proofs.YtkbfocoaobiijaaGreat
open Go.RowKit
set_option maxRecDepth 100000

theorem Blk.far6 {w : World} {g q : Nat} {t : TypeId} {cs : Array Value} (h : Blk w g t cs) (hq : g ≠ q) (m : M) : Blk (Go.Proofs.YtkbfocoaobiijaaGreat.st6 w q m) g t cs :=
  (((((h.far (p := ⟨q, 0, none⟩) hq _).far (p := ⟨q, 1, none⟩) hq _).far (p := ⟨q, 2, none⟩) hq _).far (p := ⟨q, 3, none⟩) hq _).far (p := ⟨q, 4, none⟩) hq _).far (p := ⟨q, 5, none⟩) hq _

def ipR (f : M) : M := if isMap f then pw f 60 else M0
theorem ipR_bad {f : M} (h : isMap f = false) : ipR f = M0 ∧ cInv (isMap f) = 1 := by rw [h]; simp [ipR, h, cInv]
theorem ipR_good {f : M} (h : isMap f = true) : ipR f = pw f 60 ∧ cInv (isMap f) = 0 := by rw [h]; simp [ipR, h, cInv]

theorem ImplIdemPower_any (f : M) (w : World) :
    Calls Tryz.prog 57 #[.agg (mc f)] w fun e w' => e = .returned (.tuple #[.agg (mc (ipR f)), I (cInv (isMap f))]) ∧ Below w.heap.size w w' := by
  cases h : isMap f
  · have Hr := Lib.hid (ipR_bad h)
    rw [← h]
    have Hh := Lib.hid h
    go_enter Tryz.func57, Tryz.ntmps57
    go_wp2_with fail
    refine (isMap_any _ _).mono ?_
    rintro e w1 ⟨rfl, hb⟩
    have hB1 : Blk w1 (w.heap.size + 1) 31 (mc M0) := Blk.below (Blk.new' _ _ _ (by simp)) hb (by simp <;> omega)
    have hbel : Below w.heap.size w w1 := Below.trans (by (repeat (first | with_reducible assumption | with_reducible exact Below.refl _ _ | with_reducible refine Below.setCell ?_ (by first | omega | (simp <;> omega)) _ | with_reducible refine Below.alloc ?_ (by first | omega | (simp <;> omega)) _ | with_reducible refine Below.drew ?_ | with_reducible refine Below.drewN ?_ _))) (hb.mono (by simp <;> omega))
    clear hb
    obtain ⟨d0, d1, d2, d3, d4, d5⟩ := hB1.six
    obtain ⟨z0, z1, z2, z3, z4, z5⟩ := hB1.fr6
    go_wp2
    refine bodyPost_ret (v := .tuple #[.agg (mc M0), I 1]) ?_ rfl ⟨by rw [Hr.out.1, Hr.out.2], by (repeat (first | with_reducible assumption | with_reducible exact Below.refl _ _ | with_reducible refine Below.setCell ?_ (by first | omega | (simp <;> omega)) _ | with_reducible refine Below.alloc ?_ (by first | omega | (simp <;> omega)) _ | with_reducible refine Below.drew ?_ | with_reducible refine Below.drewN ?_ _))⟩
    simp [results, Tryz.results57, go_sem, *]
    try exact ⟨rfl, rfl, rfl, rfl, rfl, rfl⟩
  · have Hr := Lib.hid (ipR_good h)
    have hv := (isMap_iff f).1 h
    rw [← h]
    have Hh := Lib.hid h
    go_enter Tryz.func57, Tryz.ntmps57
    go_wp2_with fail
    refine (isMap_any _ _).mono ?_
    rintro e w1 ⟨rfl, hb⟩
    have hB0 : Blk w1 w.heap.size 31 (mc f) := Blk.below ((Blk.new w _ _).alloc _) hb (by simp <;> omega)
    have hB1 : Blk w1 (w.heap.size + 1) 31 (mc M0) := Blk.below (Blk.new' _ _ _ (by simp)) hb (by simp <;> omega)
    have hbel : Below w.heap.size w w1 := Below.trans (by (repeat (first | with_reducible assumption | with_reducible exact Below.refl _ _ | with_reducible refine Below.setCell ?_ (by first | omega | (simp <;> omega)) _ | with_reducible refine Below.alloc ?_ (by first | omega | (simp <;> omega)) _ | with_reducible refine Below.drew ?_ | with_reducible refine Below.drewN ?_ _))) (hb.mono (by simp <;> omega))
    have hlt := hB1.lt
    clear hb
    obtain ⟨d0, d1, d2, d3, d4, d5⟩ := hB0.six
    rw [h]
    go_wp2_with fail
    clear d0 d1 d2 d3 d4 d5
    go_loopg [] 59 (fun gk wr => ∃ m : Nat, m + gk = 60 ∧ 1 ≤ m ∧ Blk wr w.heap.size 31 (mc f) ∧ Blk wr (w.heap.size+1) 31 (mc M0) ∧ Blk wr w1.heap.size 31 (mc (pw f m)) ∧ Below w.heap.size w wr)
    case atStart => exact ⟨1, rfl, Nat.le_refl _, hB0.alloc _, hB1.alloc _, by rw [pw_one hv]; exact Blk.new _ _ _, hbel.alloc hbel.size _⟩
    case round =>
      clear hB0 hB1 hbel
      obtain ⟨m, hm, hm1, hB0, hB1, hB2, hbel⟩ := hrel
      have hvm := pw_valid hv m
      have l2 := hB2.lt
      obtain ⟨d0, d1, d2, d3, d4, d5⟩ := hB2.six
      cases hi : isIdem (pw f m)
      · have Hm : Hid (m < 60) := by
          rcases Nat.lt_or_ge m 60 with h | h
          · exact h
          · exfalso
            obtain rfl : m = 60 := by omega
            rw [isIdem, decide_eq_true (idem_60 hv)] at hi
            cases hi
        go_wp2_with fail
        refine (isIdem_any (pw f m) _ hvm).mono ?_
        rintro e w2 ⟨rfl, hb⟩
        rw [hi]
        replace hB0 := hB0.below hb hB0.lt
        replace hB1 := hB1.below hb hB1.lt
        replace hB2 := hB2.below hb hB2.lt
        replace hbel := hbel.trans (hb.mono hbel.size)
        have l3 := hB2.lt
        clear hb d0 d1 d2 d3 d4 d5 l2 hi
        obtain ⟨d0, d1, d2, d3, d4, d5⟩ := hB2.six
        obtain ⟨e0, e1, e2, e3, e4, e5⟩ := hB0.six
        go_wp2_with fail
        refine (times_any (pw f m) f _ hvm).mono ?_
        rintro e w3 ⟨rfl, hb⟩
        replace hB0 := hB0.below hb hB0.lt
        replace hB1 := hB1.below hb hB1.lt
        replace hB2 := hB2.below hb hB2.lt
        replace hbel := hbel.trans (hb.mono hbel.size)
        clear hb d0 d1 d2 d3 d4 d5 e0 e1 e2 e3 e4 e5 l3
        obtain ⟨d0, d1, d2, d3, d4, d5⟩ := hB2.six
        obtain ⟨z0, z1, z2, z3, z4, z5⟩ := hB2.fr6
        go_wp2
        go_roundg (gk - 1)
        case rel => exact ⟨m + 1, by have := Hm.out; omega, by omega, hB0.far6 (by omega) _, hB1.far6 (by omega) _, hB2.st6 _, by (repeat (first | with_reducible assumption | with_reducible exact Below.refl _ _ | with_reducible refine Below.setCell ?_ (by first | omega | (simp <;> omega)) _ | with_reducible refine Below.alloc ?_ (by first | omega | (simp <;> omega)) _ | with_reducible refine Below.drew ?_ | with_reducible refine Below.drewN ?_ _))⟩
        case measure => have := Hm.out; omega
      · have Hm : Hid (pw f m = pw f 60) := idem_uniq hv hm1 (of_decide_eq_true hi)
        go_wp2_with fail
        refine (isIdem_any (pw f m) _ hvm).mono ?_
        rintro e w2 ⟨rfl, hb⟩
        rw [hi]
        replace hB1 := hB1.below hb hB1.lt
        replace hB2 := hB2.below hb hB2.lt
        replace hbel := hbel.trans (hb.mono hbel.size)
        clear hb d0 d1 d2 d3 d4 d5 l2 hi hB0
        obtain ⟨d0, d1, d2, d3, d4, d5⟩ := hB2.six
        obtain ⟨e0, e1, e2, e3, e4, e5⟩ := hB1.six
        obtain ⟨z0, z1, z2, z3, z4, z5⟩ := hB1.fr6
        go_wp2
        refine bodyPost_ret (v := .tuple #[.agg (mc (pw f m)), I 0]) ?_ rfl ⟨by rw [Hr.out.1, Hr.out.2, Hm.out], by (repeat (first | with_reducible assumption | with_reducible exact Below.refl _ _ | with_reducible refine Below.setCell ?_ (by first | omega | (simp <;> omega)) _ | with_reducible refine Below.alloc ?_ (by first | omega | (simp <;> omega)) _ | with_reducible refine Below.drew ?_ | with_reducible refine Below.drewN ?_ _))⟩
        simp [results, Tryz.results57, go_sem, *]

def powR (f : M) (k : Int) : M := if isMap f && inR k 0 1000000000000 then pw f k.toNat else M0
def powC (f : M) (k : Int) : Int := if isMap f then (if inR k 0 1000000000000 then 0 else 2) else 1
theorem powR_bad {f : M} {k : Int} (h : isMap f = false) : powR f k = M0 ∧ powC f k = 1 := by simp [powR, powC, h]
theorem powR_rng {f : M} {k : Int} (h : isMap f = true) (hr : inR k 0 1000000000000 = false) : powR f k = M0 ∧ powC f k = 2 := by simp [powR, powC, h, hr]
theorem powR_good {f : M} {k : Int} (h : isMap f = true) (hr : inR k 0 1000000000000 = true) : powR f k = pw f k.toNat ∧ powC f k = 0 := by simp [powR, powC, h, hr]

end Go.Proofs.YtkbfocoaobiijaaGreat
