/- Contracts of powers; the maps are valid as each theorem states. -/
import Derived.Test.YtkbfocoaobiijaaC3
import Derived.Test.YtkbfocoaobiijaaPow
import Derived.Test.YtkbfocoaobiijaaS1
namespace Go.Proofs.Ytkbfocoaobiijaa
open Go.RowKit
set_option maxRecDepth 100000

theorem Blk.far6 {w : World} {g q : Nat} {t : TypeId} {cs : Array Value} (h : Blk w g t cs) (hq : g ≠ q) (m : M) : Blk (Go.Proofs.Ytkbfocoaobiijaa.st6 w q m) g t cs :=
  (((((h.far (p := ⟨q, 0, none⟩) hq _).far (p := ⟨q, 1, none⟩) hq _).far (p := ⟨q, 2, none⟩) hq _).far (p := ⟨q, 3, none⟩) hq _).far (p := ⟨q, 4, none⟩) hq _).far (p := ⟨q, 5, none⟩) hq _

theorem l01Power_any (f : M) (k : Nat) (w : World) (hf : Valid f) (hk : k < 4611686018427387904) :
    Calls Try.prog 43 #[.agg (mc f), .int .i64 k] w fun e w' => e = .returned (.agg (mc (pw f k))) ∧ Below w.heap.size w w' := by
  have hp1 := hf.p1
  have hp5 := hf.p5
  go_enter Try.func43, Try.ntmps43
  go_wp2_with fail
  refine (l01Identity_any f.p _ hp1 hp5).mono ?_
  rintro e w1 ⟨rfl, hb1⟩
  have hB0 : Blk w1 w.heap.size 26 (mc f) := Blk.below ((Blk.new w _ _).alloc _) hb1 (by simp <;> omega)
  have hB1 : Blk w1 (w.heap.size + 1) 26 (mc M0) := Blk.below (Blk.new' _ _ _ (by simp)) hb1 (by simp <;> omega)
  have hbel : Below w.heap.size w w1 := Below.trans (by (repeat (first | with_reducible assumption | with_reducible exact Below.refl _ _ | with_reducible refine Below.setCell ?_ (by first | omega | (simp <;> omega)) _ | with_reducible refine Below.alloc ?_ (by first | omega | (simp <;> omega)) _ | with_reducible refine Below.drew ?_ | with_reducible refine Below.drewN ?_ _))) (hb1.mono (by simp <;> omega))
  have hlt := hB1.lt
  clear hb1
  go_wp2
  go_loopw [1] (fun kv wr => ∃ a b j : Nat, kv = .int .i64 j ∧ Hid (a + b * j = k) ∧ j ≤ k ∧ Blk wr w.heap.size 26 (mc (pw f b)) ∧ Blk wr (w.heap.size+1) 26 (mc M0) ∧ Blk wr w1.heap.size 26 (mc (pw f a)) ∧ Below w.heap.size w wr) (fun kv _ => (intOf kv).toNat)
  case atStart =>
    refine ⟨0, 1, k, rfl, by show _ = _; omega, Nat.le_refl _, ?_, hB1.alloc _, ?_, hbel.alloc hbel.size _⟩
    · rw [pw_one hf]; exact hB0.alloc _
    · exact Blk.new _ _ _
  case round =>
    clear hB0 hB1 hbel
    obtain ⟨a, b, j, rfl, Hj, hjk, hB0, hB1, hB2, hbel⟩ := hrel
    by_cases hz : 0 < j
    · have hva := pw_valid hf a
      have hvb := pw_valid hf b
      have Hs := Lib.hid hbel.size
      have hd : (j : Int).tdiv 2 = ((j / 2 : Nat) : Int) := by rw [Int.tdiv_eq_ediv_of_nonneg (by omega)]; omega
      obtain ⟨d0, d1, d2, d3, d4, d5⟩ := hB0.six
      by_cases ho : j % 2 = 1
      · have hm : (j : Int).tmod 2 = 1 := by rw [Int.tmod_eq_emod_of_nonneg (by omega)]; omega
        obtain ⟨e0, e1, e2, e3, e4, e5⟩ := hB2.six
        have Hk : Hid (a + b + (b + b) * (j / 2) = k) := by
          have := Hj.out
          have e : j = 2 * (j / 2) + 1 := by omega
          show _ = _
          rw [← this]
          conv => rhs; rw [e]
          rw [Nat.mul_add, Nat.mul_one, Nat.add_mul, ← Nat.two_mul, Nat.mul_left_comm b 2]; omega
        go_wp2_with fail
        refine (l01Times_any (pw f a) (pw f b) _ hva).mono ?_
        rintro e w2 ⟨rfl, hb⟩
        rw [pw_add hf]
        have l0 := hB0.lt
        have l2 := hB2.lt
        replace hB0 := hB0.below hb hB0.lt
        replace hB1 := hB1.below hb hB1.lt
        replace hB2 := hB2.below hb hB2.lt
        replace hbel := hbel.trans (hb.mono hbel.size)
        clear hb d0 d1 d2 d3 d4 d5 e0 e1 e2 e3 e4 e5 hva hm
        obtain ⟨d0, d1, d2, d3, d4, d5⟩ := hB0.six
        obtain ⟨e0, e1, e2, e3, e4, e5⟩ := hB2.six
        obtain ⟨z0, z1, z2, z3, z4, z5⟩ := hB2.fr6
        go_wp2_with fail
        refine (l01Times_any (pw f b) (pw f b) _ hvb).mono ?_
        rintro e w3 ⟨rfl, hb⟩
        rw [pw_add hf]
        have l3 := hB2.lt
        replace hB0 := (hB0.far6 (by omega) _).below hb (by simp; omega)
        replace hB1 := (hB1.far6 (by omega) _).below hb (by simp; omega)
        replace hB2 := (hB2.st6 _).below hb (by simp; omega)
        replace hbel := (below_st6 hbel (by omega) _).trans (hb.mono (by have := hbel.size; simp; omega))
        clear hb d0 d1 d2 d3 d4 d5 e0 e1 e2 e3 e4 e5 z0 z1 z2 z3 z4 z5 l3
        obtain ⟨d0, d1, d2, d3, d4, d5⟩ := hB0.six
        obtain ⟨z0, z1, z2, z3, z4, z5⟩ := hB0.fr6
        go_wp2
        go_roundw
        case rel => exact ⟨a + b, b + b, j / 2, by go_num, Hk, by omega, hB0.st6 _, hB1.far6 (by omega) _, hB2.far6 (by omega) _, by (repeat (first | with_reducible assumption | with_reducible exact Below.refl _ _ | with_reducible refine Below.setCell ?_ (by first | omega | (simp <;> omega)) _ | with_reducible refine Below.alloc ?_ (by first | omega | (simp <;> omega)) _ | with_reducible refine Below.drew ?_ | with_reducible refine Below.drewN ?_ _))⟩
        case measure => simp [intOf]; omega
      · have hm : (j : Int).tmod 2 = 0 := by rw [Int.tmod_eq_emod_of_nonneg (by omega)]; omega
        have Hk : Hid (a + (b + b) * (j / 2) = k) := by
          have := Hj.out
          have e : j = 2 * (j / 2) := by omega
          show _ = _
          rw [← this]
          conv => rhs; rw [e]
          rw [Nat.add_mul, ← Nat.two_mul, Nat.mul_left_comm b 2]
        go_wp2_with fail
        refine (l01Times_any (pw f b) (pw f b) _ hvb).mono ?_
        rintro e w3 ⟨rfl, hb⟩
        rw [pw_add hf]
        replace hB0 := hB0.below hb hB0.lt
        replace hB1 := hB1.below hb hB1.lt
        replace hB2 := hB2.below hb hB2.lt
        replace hbel := hbel.trans (hb.mono hbel.size)
        clear hb d0 d1 d2 d3 d4 d5 hva hm
        obtain ⟨d0, d1, d2, d3, d4, d5⟩ := hB0.six
        obtain ⟨z0, z1, z2, z3, z4, z5⟩ := hB0.fr6
        go_wp2
        go_roundw
        case rel => exact ⟨a, b + b, j / 2, by go_num, Hk, by omega, hB0.st6 _, hB1.far6 (by omega) _, hB2.far6 (by omega) _, by (repeat (first | with_reducible assumption | with_reducible exact Below.refl _ _ | with_reducible refine Below.setCell ?_ (by first | omega | (simp <;> omega)) _ | with_reducible refine Below.alloc ?_ (by first | omega | (simp <;> omega)) _ | with_reducible refine Below.drew ?_ | with_reducible refine Below.drewN ?_ _))⟩
        case measure => simp [intOf]; omega
    · obtain rfl : j = 0 := by omega
      have Ha : Hid (a = k) := by have := Hj.out; show _ = _; omega
      obtain ⟨e0, e1, e2, e3, e4, e5⟩ := hB2.six
      obtain ⟨d0, d1, d2, d3, d4, d5⟩ := hB1.six
      obtain ⟨z0, z1, z2, z3, z4, z5⟩ := hB1.fr6
      go_wp2
      refine bodyPost_ret (v := .agg (mc (pw f a))) ?_ rfl ⟨by rw [Ha.out], by (repeat (first | with_reducible assumption | with_reducible exact Below.refl _ _ | with_reducible refine Below.setCell ?_ (by first | omega | (simp <;> omega)) _ | with_reducible refine Below.alloc ?_ (by first | omega | (simp <;> omega)) _ | with_reducible refine Below.drew ?_ | with_reducible refine Below.drewN ?_ _))⟩
      simp [results, Try.results43, go_sem, *]

theorem power_any (f : M) (k : Nat) (w : World) (hf : Valid f) (hk : k < 4611686018427387904) :
    Calls Try.prog 40 #[.agg (mc f), .int .i64 k] w fun e w' => e = .returned (.agg (mc (pw f k))) ∧ Below w.heap.size w w' := by
  have hp1 := hf.p1
  have hp5 := hf.p5
  go_enter Try.func40, Try.ntmps40
  go_wp2_with fail
  refine (identity_any f.p _ hp1 hp5).mono ?_
  rintro e w1 ⟨rfl, hb1⟩
  have hB0 : Blk w1 w.heap.size 26 (mc f) := Blk.below ((Blk.new w _ _).alloc _) hb1 (by simp <;> omega)
  have hB1 : Blk w1 (w.heap.size + 1) 26 (mc M0) := Blk.below (Blk.new' _ _ _ (by simp)) hb1 (by simp <;> omega)
  have hbel : Below w.heap.size w w1 := Below.trans (by (repeat (first | with_reducible assumption | with_reducible exact Below.refl _ _ | with_reducible refine Below.setCell ?_ (by first | omega | (simp <;> omega)) _ | with_reducible refine Below.alloc ?_ (by first | omega | (simp <;> omega)) _ | with_reducible refine Below.drew ?_ | with_reducible refine Below.drewN ?_ _))) (hb1.mono (by simp <;> omega))
  have hlt := hB1.lt
  clear hb1
  go_wp2
  go_loopw [1] (fun kv wr => ∃ a b j : Nat, kv = .int .i64 j ∧ Hid (a + b * j = k) ∧ j ≤ k ∧ Blk wr w.heap.size 26 (mc (pw f b)) ∧ Blk wr (w.heap.size+1) 26 (mc M0) ∧ Blk wr w1.heap.size 26 (mc (pw f a)) ∧ Below w.heap.size w wr) (fun kv _ => (intOf kv).toNat)
  case atStart =>
    refine ⟨0, 1, k, rfl, by show _ = _; omega, Nat.le_refl _, ?_, hB1.alloc _, ?_, hbel.alloc hbel.size _⟩
    · rw [pw_one hf]; exact hB0.alloc _
    · exact Blk.new _ _ _
  case round =>
    clear hB0 hB1 hbel
    obtain ⟨a, b, j, rfl, Hj, hjk, hB0, hB1, hB2, hbel⟩ := hrel
    by_cases hz : 0 < j
    · have hva := pw_valid hf a
      have hvb := pw_valid hf b
      have Hs := Lib.hid hbel.size
      have hd : (j : Int).tdiv 2 = ((j / 2 : Nat) : Int) := by rw [Int.tdiv_eq_ediv_of_nonneg (by omega)]; omega
      obtain ⟨d0, d1, d2, d3, d4, d5⟩ := hB0.six
      by_cases ho : j % 2 = 1
      · have hm : (j : Int).tmod 2 = 1 := by rw [Int.tmod_eq_emod_of_nonneg (by omega)]; omega
        obtain ⟨e0, e1, e2, e3, e4, e5⟩ := hB2.six
        have Hk : Hid (a + b + (b + b) * (j / 2) = k) := by
          have := Hj.out
          have e : j = 2 * (j / 2) + 1 := by omega
          show _ = _
          rw [← this]
          conv => rhs; rw [e]
          rw [Nat.mul_add, Nat.mul_one, Nat.add_mul, ← Nat.two_mul, Nat.mul_left_comm b 2]; omega
        go_wp2_with fail
        refine (times_any (pw f a) (pw f b) _ hva).mono ?_
        rintro e w2 ⟨rfl, hb⟩
        rw [pw_add hf]
        have l0 := hB0.lt
        have l2 := hB2.lt
        replace hB0 := hB0.below hb hB0.lt
        replace hB1 := hB1.below hb hB1.lt
        replace hB2 := hB2.below hb hB2.lt
        replace hbel := hbel.trans (hb.mono hbel.size)
        clear hb d0 d1 d2 d3 d4 d5 e0 e1 e2 e3 e4 e5 hva hm
        obtain ⟨d0, d1, d2, d3, d4, d5⟩ := hB0.six
        obtain ⟨e0, e1, e2, e3, e4, e5⟩ := hB2.six
        obtain ⟨z0, z1, z2, z3, z4, z5⟩ := hB2.fr6
        go_wp2_with fail
        refine (times_any (pw f b) (pw f b) _ hvb).mono ?_
        rintro e w3 ⟨rfl, hb⟩
        rw [pw_add hf]
        have l3 := hB2.lt
        replace hB0 := (hB0.far6 (by omega) _).below hb (by simp; omega)
        replace hB1 := (hB1.far6 (by omega) _).below hb (by simp; omega)
        replace hB2 := (hB2.st6 _).below hb (by simp; omega)
        replace hbel := (below_st6 hbel (by omega) _).trans (hb.mono (by have := hbel.size; simp; omega))
        clear hb d0 d1 d2 d3 d4 d5 e0 e1 e2 e3 e4 e5 z0 z1 z2 z3 z4 z5 l3
        obtain ⟨d0, d1, d2, d3, d4, d5⟩ := hB0.six
        obtain ⟨z0, z1, z2, z3, z4, z5⟩ := hB0.fr6
        go_wp2
        go_roundw
        case rel => exact ⟨a + b, b + b, j / 2, by go_num, Hk, by omega, hB0.st6 _, hB1.far6 (by omega) _, hB2.far6 (by omega) _, by (repeat (first | with_reducible assumption | with_reducible exact Below.refl _ _ | with_reducible refine Below.setCell ?_ (by first | omega | (simp <;> omega)) _ | with_reducible refine Below.alloc ?_ (by first | omega | (simp <;> omega)) _ | with_reducible refine Below.drew ?_ | with_reducible refine Below.drewN ?_ _))⟩
        case measure => simp [intOf]; omega
      · have hm : (j : Int).tmod 2 = 0 := by rw [Int.tmod_eq_emod_of_nonneg (by omega)]; omega
        have Hk : Hid (a + (b + b) * (j / 2) = k) := by
          have := Hj.out
          have e : j = 2 * (j / 2) := by omega
          show _ = _
          rw [← this]
          conv => rhs; rw [e]
          rw [Nat.add_mul, ← Nat.two_mul, Nat.mul_left_comm b 2]
        go_wp2_with fail
        refine (times_any (pw f b) (pw f b) _ hvb).mono ?_
        rintro e w3 ⟨rfl, hb⟩
        rw [pw_add hf]
        replace hB0 := hB0.below hb hB0.lt
        replace hB1 := hB1.below hb hB1.lt
        replace hB2 := hB2.below hb hB2.lt
        replace hbel := hbel.trans (hb.mono hbel.size)
        clear hb d0 d1 d2 d3 d4 d5 hva hm
        obtain ⟨d0, d1, d2, d3, d4, d5⟩ := hB0.six
        obtain ⟨z0, z1, z2, z3, z4, z5⟩ := hB0.fr6
        go_wp2
        go_roundw
        case rel => exact ⟨a, b + b, j / 2, by go_num, Hk, by omega, hB0.st6 _, hB1.far6 (by omega) _, hB2.far6 (by omega) _, by (repeat (first | with_reducible assumption | with_reducible exact Below.refl _ _ | with_reducible refine Below.setCell ?_ (by first | omega | (simp <;> omega)) _ | with_reducible refine Below.alloc ?_ (by first | omega | (simp <;> omega)) _ | with_reducible refine Below.drew ?_ | with_reducible refine Below.drewN ?_ _))⟩
        case measure => simp [intOf]; omega
    · obtain rfl : j = 0 := by omega
      have Ha : Hid (a = k) := by have := Hj.out; show _ = _; omega
      obtain ⟨e0, e1, e2, e3, e4, e5⟩ := hB2.six
      obtain ⟨d0, d1, d2, d3, d4, d5⟩ := hB1.six
      obtain ⟨z0, z1, z2, z3, z4, z5⟩ := hB1.fr6
      go_wp2
      refine bodyPost_ret (v := .agg (mc (pw f a))) ?_ rfl ⟨by rw [Ha.out], by (repeat (first | with_reducible assumption | with_reducible exact Below.refl _ _ | with_reducible refine Below.setCell ?_ (by first | omega | (simp <;> omega)) _ | with_reducible refine Below.alloc ?_ (by first | omega | (simp <;> omega)) _ | with_reducible refine Below.drew ?_ | with_reducible refine Below.drewN ?_ _))⟩
      simp [results, Try.results40, go_sem, *]

def ipR (f : M) : M := if isMap f then pw f 60 else M0
theorem ipR_bad {f : M} (h : isMap f = false) : ipR f = M0 ∧ cInv (isMap f) = 1 := by rw [h]; simp [ipR, h, cInv]
theorem ipR_good {f : M} (h : isMap f = true) : ipR f = pw f 60 ∧ cInv (isMap f) = 0 := by rw [h]; simp [ipR, h, cInv]

theorem SpecIdemPower_any (f : M) (w : World) :
    Calls Try.prog 12 #[.agg (mc f)] w fun e w' => e = .returned (.tuple #[.agg (mc (ipR f)), I (cInv (isMap f))]) ∧ Below w.heap.size w w' := by
  cases h : isMap f
  · have Hr := Lib.hid (ipR_bad h)
    rw [← h]
    have Hh := Lib.hid h
    go_enter Try.func12, Try.ntmps12
    go_wp2_with fail
    refine (l01Is_any _ _).mono ?_
    rintro e w1 ⟨rfl, hb⟩
    have hB1 : Blk w1 (w.heap.size + 1) 26 (mc M0) := Blk.below (Blk.new' _ _ _ (by simp)) hb (by simp <;> omega)
    have hbel : Below w.heap.size w w1 := Below.trans (by (repeat (first | with_reducible assumption | with_reducible exact Below.refl _ _ | with_reducible refine Below.setCell ?_ (by first | omega | (simp <;> omega)) _ | with_reducible refine Below.alloc ?_ (by first | omega | (simp <;> omega)) _ | with_reducible refine Below.drew ?_ | with_reducible refine Below.drewN ?_ _))) (hb.mono (by simp <;> omega))
    clear hb
    obtain ⟨d0, d1, d2, d3, d4, d5⟩ := hB1.six
    obtain ⟨z0, z1, z2, z3, z4, z5⟩ := hB1.fr6
    go_wp2
    refine bodyPost_ret (v := .tuple #[.agg (mc M0), I 1]) ?_ rfl ⟨by rw [Hr.out.1, Hr.out.2], by (repeat (first | with_reducible assumption | with_reducible exact Below.refl _ _ | with_reducible refine Below.setCell ?_ (by first | omega | (simp <;> omega)) _ | with_reducible refine Below.alloc ?_ (by first | omega | (simp <;> omega)) _ | with_reducible refine Below.drew ?_ | with_reducible refine Below.drewN ?_ _))⟩
    simp [results, Try.results12, go_sem, *]
    try exact ⟨rfl, rfl, rfl, rfl, rfl, rfl⟩
  · have Hr := Lib.hid (ipR_good h)
    have hv := (isMap_iff f).1 h
    rw [← h]
    have Hh := Lib.hid h
    go_enter Try.func12, Try.ntmps12
    go_wp2_with fail
    refine (l01Is_any _ _).mono ?_
    rintro e w1 ⟨rfl, hb⟩
    have hB0 : Blk w1 w.heap.size 26 (mc f) := Blk.below ((Blk.new w _ _).alloc _) hb (by simp <;> omega)
    have hB1 : Blk w1 (w.heap.size + 1) 26 (mc M0) := Blk.below (Blk.new' _ _ _ (by simp)) hb (by simp <;> omega)
    have hbel : Below w.heap.size w w1 := Below.trans (by (repeat (first | with_reducible assumption | with_reducible exact Below.refl _ _ | with_reducible refine Below.setCell ?_ (by first | omega | (simp <;> omega)) _ | with_reducible refine Below.alloc ?_ (by first | omega | (simp <;> omega)) _ | with_reducible refine Below.drew ?_ | with_reducible refine Below.drewN ?_ _))) (hb.mono (by simp <;> omega))
    clear hb
    obtain ⟨d0, d1, d2, d3, d4, d5⟩ := hB0.six
    rw [h]
    go_wp2_with fail
    refine (l01Power_any f 60 _ hv (by omega)).mono ?_
    rintro e w2 ⟨rfl, hb⟩
    replace hB1 := hB1.below hb hB1.lt
    replace hbel := hbel.trans (hb.mono hbel.size)
    clear hb d0 d1 d2 d3 d4 d5
    obtain ⟨d0, d1, d2, d3, d4, d5⟩ := hB1.six
    obtain ⟨z0, z1, z2, z3, z4, z5⟩ := hB1.fr6
    go_wp2
    refine bodyPost_ret (v := .tuple #[.agg (mc (pw f 60)), I 0]) ?_ rfl ⟨by rw [Hr.out.1, Hr.out.2], by (repeat (first | with_reducible assumption | with_reducible exact Below.refl _ _ | with_reducible refine Below.setCell ?_ (by first | omega | (simp <;> omega)) _ | with_reducible refine Below.alloc ?_ (by first | omega | (simp <;> omega)) _ | with_reducible refine Below.drew ?_ | with_reducible refine Below.drewN ?_ _))⟩
    simp [results, Try.results12, go_sem, *]

theorem ImplIdemPower_any (f : M) (w : World) :
    Calls Try.prog 11 #[.agg (mc f)] w fun e w' => e = .returned (.tuple #[.agg (mc (ipR f)), I (cInv (isMap f))]) ∧ Below w.heap.size w w' := by
  cases h : isMap f
  · have Hr := Lib.hid (ipR_bad h)
    rw [← h]
    have Hh := Lib.hid h
    go_enter Try.func11, Try.ntmps11
    go_wp2_with fail
    refine (isMap_any _ _).mono ?_
    rintro e w1 ⟨rfl, hb⟩
    have hB1 : Blk w1 (w.heap.size + 1) 26 (mc M0) := Blk.below (Blk.new' _ _ _ (by simp)) hb (by simp <;> omega)
    have hbel : Below w.heap.size w w1 := Below.trans (by (repeat (first | with_reducible assumption | with_reducible exact Below.refl _ _ | with_reducible refine Below.setCell ?_ (by first | omega | (simp <;> omega)) _ | with_reducible refine Below.alloc ?_ (by first | omega | (simp <;> omega)) _ | with_reducible refine Below.drew ?_ | with_reducible refine Below.drewN ?_ _))) (hb.mono (by simp <;> omega))
    clear hb
    obtain ⟨d0, d1, d2, d3, d4, d5⟩ := hB1.six
    obtain ⟨z0, z1, z2, z3, z4, z5⟩ := hB1.fr6
    go_wp2
    refine bodyPost_ret (v := .tuple #[.agg (mc M0), I 1]) ?_ rfl ⟨by rw [Hr.out.1, Hr.out.2], by (repeat (first | with_reducible assumption | with_reducible exact Below.refl _ _ | with_reducible refine Below.setCell ?_ (by first | omega | (simp <;> omega)) _ | with_reducible refine Below.alloc ?_ (by first | omega | (simp <;> omega)) _ | with_reducible refine Below.drew ?_ | with_reducible refine Below.drewN ?_ _))⟩
    simp [results, Try.results11, go_sem, *]
    try exact ⟨rfl, rfl, rfl, rfl, rfl, rfl⟩
  · have Hr := Lib.hid (ipR_good h)
    have hv := (isMap_iff f).1 h
    rw [← h]
    have Hh := Lib.hid h
    go_enter Try.func11, Try.ntmps11
    go_wp2_with fail
    refine (isMap_any _ _).mono ?_
    rintro e w1 ⟨rfl, hb⟩
    have hB0 : Blk w1 w.heap.size 26 (mc f) := Blk.below ((Blk.new w _ _).alloc _) hb (by simp <;> omega)
    have hB1 : Blk w1 (w.heap.size + 1) 26 (mc M0) := Blk.below (Blk.new' _ _ _ (by simp)) hb (by simp <;> omega)
    have hbel : Below w.heap.size w w1 := Below.trans (by (repeat (first | with_reducible assumption | with_reducible exact Below.refl _ _ | with_reducible refine Below.setCell ?_ (by first | omega | (simp <;> omega)) _ | with_reducible refine Below.alloc ?_ (by first | omega | (simp <;> omega)) _ | with_reducible refine Below.drew ?_ | with_reducible refine Below.drewN ?_ _))) (hb.mono (by simp <;> omega))
    have hlt := hB1.lt
    clear hb
    obtain ⟨d0, d1, d2, d3, d4, d5⟩ := hB0.six
    rw [h]
    go_wp2_with fail
    clear d0 d1 d2 d3 d4 d5
    go_loopg [] 59 (fun gk wr => ∃ m : Nat, m + gk = 60 ∧ 1 ≤ m ∧ Blk wr w.heap.size 26 (mc f) ∧ Blk wr (w.heap.size+1) 26 (mc M0) ∧ Blk wr w1.heap.size 26 (mc (pw f m)) ∧ Below w.heap.size w wr)
    case atStart => exact ⟨1, rfl, Nat.le_refl _, hB0.alloc _, hB1.alloc _, by rw [pw_one hv]; exact Blk.new _ _ _, hbel.alloc hbel.size _⟩
    case round =>
      clear hB0 hB1 hbel
      obtain ⟨m, hm, hm1, hB0, hB1, hB2, hbel⟩ := hrel
      have hvm := pw_valid hv m
      have l2 := hB2.lt
      obtain ⟨d0, d1, d2, d3, d4, d5⟩ := hB2.six
      cases hi : isIdem (pw f m)
      · have Hm : Hid (m < 60) := by
          rcases Nat.lt_or_ge m 60 with h | h
          · exact h
          · exfalso
            obtain rfl : m = 60 := by omega
            rw [isIdem, decide_eq_true (idem_60 hv)] at hi
            cases hi
        go_wp2_with fail
        refine (isIdem_any (pw f m) _ hvm).mono ?_
        rintro e w2 ⟨rfl, hb⟩
        rw [hi]
        replace hB0 := hB0.below hb hB0.lt
        replace hB1 := hB1.below hb hB1.lt
        replace hB2 := hB2.below hb hB2.lt
        replace hbel := hbel.trans (hb.mono hbel.size)
        have l3 := hB2.lt
        clear hb d0 d1 d2 d3 d4 d5 l2 hi
        obtain ⟨d0, d1, d2, d3, d4, d5⟩ := hB2.six
        obtain ⟨e0, e1, e2, e3, e4, e5⟩ := hB0.six
        go_wp2_with fail
        refine (times_any (pw f m) f _ hvm).mono ?_
        rintro e w3 ⟨rfl, hb⟩
        replace hB0 := hB0.below hb hB0.lt
        replace hB1 := hB1.below hb hB1.lt
        replace hB2 := hB2.below hb hB2.lt
        replace hbel := hbel.trans (hb.mono hbel.size)
        clear hb d0 d1 d2 d3 d4 d5 e0 e1 e2 e3 e4 e5 l3
        obtain ⟨d0, d1, d2, d3, d4, d5⟩ := hB2.six
        obtain ⟨z0, z1, z2, z3, z4, z5⟩ := hB2.fr6
        go_wp2
        go_roundg (gk - 1)
        case rel => exact ⟨m + 1, by have := Hm.out; omega, by omega, hB0.far6 (by omega) _, hB1.far6 (by omega) _, hB2.st6 _, by (repeat (first | with_reducible assumption | with_reducible exact Below.refl _ _ | with_reducible refine Below.setCell ?_ (by first | omega | (simp <;> omega)) _ | with_reducible refine Below.alloc ?_ (by first | omega | (simp <;> omega)) _ | with_reducible refine Below.drew ?_ | with_reducible refine Below.drewN ?_ _))⟩
        case measure => have := Hm.out; omega
      · have Hm : Hid (pw f m = pw f 60) := idem_uniq hv hm1 (of_decide_eq_true hi)
        go_wp2_with fail
        refine (isIdem_any (pw f m) _ hvm).mono ?_
        rintro e w2 ⟨rfl, hb⟩
        rw [hi]
        replace hB1 := hB1.below hb hB1.lt
        replace hB2 := hB2.below hb hB2.lt
        replace hbel := hbel.trans (hb.mono hbel.size)
        clear hb d0 d1 d2 d3 d4 d5 l2 hi hB0
        obtain ⟨d0, d1, d2, d3, d4, d5⟩ := hB2.six
        obtain ⟨e0, e1, e2, e3, e4, e5⟩ := hB1.six
        obtain ⟨z0, z1, z2, z3, z4, z5⟩ := hB1.fr6
        go_wp2
        refine bodyPost_ret (v := .tuple #[.agg (mc (pw f m)), I 0]) ?_ rfl ⟨by rw [Hr.out.1, Hr.out.2, Hm.out], by (repeat (first | with_reducible assumption | with_reducible exact Below.refl _ _ | with_reducible refine Below.setCell ?_ (by first | omega | (simp <;> omega)) _ | with_reducible refine Below.alloc ?_ (by first | omega | (simp <;> omega)) _ | with_reducible refine Below.drew ?_ | with_reducible refine Below.drewN ?_ _))⟩
        simp [results, Try.results11, go_sem, *]

def powR (f : M) (k : Int) : M := if isMap f && inR k 0 1000000000000 then pw f k.toNat else M0
def powC (f : M) (k : Int) : Int := if isMap f then (if inR k 0 1000000000000 then 0 else 2) else 1
theorem powR_bad {f : M} {k : Int} (h : isMap f = false) : powR f k = M0 ∧ powC f k = 1 := by simp [powR, powC, h]
theorem powR_rng {f : M} {k : Int} (h : isMap f = true) (hr : inR k 0 1000000000000 = false) : powR f k = M0 ∧ powC f k = 2 := by simp [powR, powC, h, hr]
theorem powR_good {f : M} {k : Int} (h : isMap f = true) (hr : inR k 0 1000000000000 = true) : powR f k = pw f k.toNat ∧ powC f k = 0 := by simp [powR, powC, h, hr]

theorem ImplPower_any (f : M) (k : Int) (w : World) :
    Calls Try.prog 6 #[.agg (mc f), I k] w fun e w' => e = .returned (.tuple #[.agg (mc (powR f k)), I (powC f k)]) ∧ Below w.heap.size w w' := by
  cases h : isMap f
  · have Hr := Lib.hid (powR_bad (k := k) h)
    go_enter Try.func6, Try.ntmps6
    go_wp2_with fail
    refine (isMap_any _ _).mono ?_
    rintro e w1 ⟨rfl, hb⟩
    rw [h]
    have hB1 : Blk w1 (w.heap.size + 1) 26 (mc M0) := Blk.below (Blk.new' _ _ _ (by simp)) hb (by simp <;> omega)
    have hbel : Below w.heap.size w w1 := Below.trans (by (repeat (first | with_reducible assumption | with_reducible exact Below.refl _ _ | with_reducible refine Below.setCell ?_ (by first | omega | (simp <;> omega)) _ | with_reducible refine Below.alloc ?_ (by first | omega | (simp <;> omega)) _ | with_reducible refine Below.drew ?_ | with_reducible refine Below.drewN ?_ _))) (hb.mono (by simp <;> omega))
    clear hb
    obtain ⟨d0, d1, d2, d3, d4, d5⟩ := hB1.six
    obtain ⟨z0, z1, z2, z3, z4, z5⟩ := hB1.fr6
    go_wp2
    refine bodyPost_ret (v := .tuple #[.agg (mc M0), I 1]) ?_ rfl ⟨by rw [Hr.out.1, Hr.out.2], by (repeat (first | with_reducible assumption | with_reducible exact Below.refl _ _ | with_reducible refine Below.setCell ?_ (by first | omega | (simp <;> omega)) _ | with_reducible refine Below.alloc ?_ (by first | omega | (simp <;> omega)) _ | with_reducible refine Below.drew ?_ | with_reducible refine Below.drewN ?_ _))⟩
    simp [results, Try.results6, go_sem, *]
    try exact ⟨rfl, rfl, rfl, rfl, rfl, rfl⟩
  · have hv := (isMap_iff f).1 h
    cases hr : inR k 0 1000000000000
    · have Hr := Lib.hid (powR_rng h hr)
      go_enter Try.func6, Try.ntmps6
      go_wp2_with fail
      refine (isMap_any _ _).mono ?_
      rintro e w1 ⟨rfl, hb⟩
      rw [h]
      have hB1 : Blk w1 (w.heap.size + 1) 26 (mc M0) := Blk.below (Blk.new' _ _ _ (by simp)) hb (by simp <;> omega)
      have hbel : Below w.heap.size w w1 := Below.trans (by (repeat (first | with_reducible assumption | with_reducible exact Below.refl _ _ | with_reducible refine Below.setCell ?_ (by first | omega | (simp <;> omega)) _ | with_reducible refine Below.alloc ?_ (by first | omega | (simp <;> omega)) _ | with_reducible refine Below.drew ?_ | with_reducible refine Below.drewN ?_ _))) (hb.mono (by simp <;> omega))
      clear hb
      obtain ⟨d0, d1, d2, d3, d4, d5⟩ := hB1.six
      obtain ⟨z0, z1, z2, z3, z4, z5⟩ := hB1.fr6
      go_wp2_with fail
      refine (within_any _ _ _ _).mono ?_
      rintro e w2 ⟨rfl, rfl⟩
      rw [hr]
      go_wp2
      refine bodyPost_ret (v := .tuple #[.agg (mc M0), I 2]) ?_ rfl ⟨by rw [Hr.out.1, Hr.out.2], by (repeat (first | with_reducible assumption | with_reducible exact Below.refl _ _ | with_reducible refine Below.setCell ?_ (by first | omega | (simp <;> omega)) _ | with_reducible refine Below.alloc ?_ (by first | omega | (simp <;> omega)) _ | with_reducible refine Below.drew ?_ | with_reducible refine Below.drewN ?_ _))⟩
      simp [results, Try.results6, go_sem, *]
      try exact ⟨rfl, rfl, rfl, rfl, rfl, rfl⟩
    · have Hr := Lib.hid (powR_good h hr)
      have hk := inR_true.1 hr
      have hk1 := hk.1
      have hk2 := hk.2
      have hkk : k = (k.toNat : Int) := by omega
      have hpw := fun w' => power_any f k.toNat w' hv (by omega)
      rw [← hkk] at hpw
      have Hpw := Lib.hid hpw
      clear hk hkk hpw
      go_enter Try.func6, Try.ntmps6
      go_wp2_with fail
      refine (isMap_any _ _).mono ?_
      rintro e w1 ⟨rfl, hb⟩
      rw [h]
      have hB0 : Blk w1 w.heap.size 26 (mc f) := Blk.below ((Blk.new w _ _).alloc _) hb (by simp <;> omega)
      have hB1 : Blk w1 (w.heap.size + 1) 26 (mc M0) := Blk.below (Blk.new' _ _ _ (by simp)) hb (by simp <;> omega)
      have hbel : Below w.heap.size w w1 := Below.trans (by (repeat (first | with_reducible assumption | with_reducible exact Below.refl _ _ | with_reducible refine Below.setCell ?_ (by first | omega | (simp <;> omega)) _ | with_reducible refine Below.alloc ?_ (by first | omega | (simp <;> omega)) _ | with_reducible refine Below.drew ?_ | with_reducible refine Below.drewN ?_ _))) (hb.mono (by simp <;> omega))
      clear hb
      obtain ⟨d0, d1, d2, d3, d4, d5⟩ := hB0.six
      go_wp2_with fail
      refine (within_any _ _ _ _).mono ?_
      rintro e w2 ⟨rfl, rfl⟩
      rw [hr]
      go_wp2_with fail
      refine (Hpw.out _).mono ?_
      rintro e w2 ⟨rfl, hb⟩
      replace hB1 := hB1.below hb hB1.lt
      replace hbel := hbel.trans (hb.mono hbel.size)
      clear hb d0 d1 d2 d3 d4 d5
      obtain ⟨d0, d1, d2, d3, d4, d5⟩ := hB1.six
      obtain ⟨z0, z1, z2, z3, z4, z5⟩ := hB1.fr6
      go_wp2
      refine bodyPost_ret (v := .tuple #[.agg (mc (pw f k.toNat)), I 0]) ?_ rfl ⟨by rw [Hr.out.1, Hr.out.2], by (repeat (first | with_reducible assumption | with_reducible exact Below.refl _ _ | with_reducible refine Below.setCell ?_ (by first | omega | (simp <;> omega)) _ | with_reducible refine Below.alloc ?_ (by first | omega | (simp <;> omega)) _ | with_reducible refine Below.drew ?_ | with_reducible refine Below.drewN ?_ _))⟩
      simp [results, Try.results6, go_sem, *]

theorem SpecPower_any (f : M) (k : Int) (w : World) :
    Calls Try.prog 7 #[.agg (mc f), I k] w fun e w' => e = .returned (.tuple #[.agg (mc (powR f k)), I (powC f k)]) ∧ Below w.heap.size w w' := by
  cases h : isMap f
  · have Hr := Lib.hid (powR_bad (k := k) h)
    go_enter Try.func7, Try.ntmps7
    go_wp2_with fail
    refine (l01Is_any _ _).mono ?_
    rintro e w1 ⟨rfl, hb⟩
    rw [h]
    have hB1 : Blk w1 (w.heap.size + 1) 26 (mc M0) := Blk.below (Blk.new' _ _ _ (by simp)) hb (by simp <;> omega)
    have hbel : Below w.heap.size w w1 := Below.trans (by (repeat (first | with_reducible assumption | with_reducible exact Below.refl _ _ | with_reducible refine Below.setCell ?_ (by first | omega | (simp <;> omega)) _ | with_reducible refine Below.alloc ?_ (by first | omega | (simp <;> omega)) _ | with_reducible refine Below.drew ?_ | with_reducible refine Below.drewN ?_ _))) (hb.mono (by simp <;> omega))
    clear hb
    obtain ⟨d0, d1, d2, d3, d4, d5⟩ := hB1.six
    obtain ⟨z0, z1, z2, z3, z4, z5⟩ := hB1.fr6
    go_wp2
    refine bodyPost_ret (v := .tuple #[.agg (mc M0), I 1]) ?_ rfl ⟨by rw [Hr.out.1, Hr.out.2], by (repeat (first | with_reducible assumption | with_reducible exact Below.refl _ _ | with_reducible refine Below.setCell ?_ (by first | omega | (simp <;> omega)) _ | with_reducible refine Below.alloc ?_ (by first | omega | (simp <;> omega)) _ | with_reducible refine Below.drew ?_ | with_reducible refine Below.drewN ?_ _))⟩
    simp [results, Try.results7, go_sem, *]
    try exact ⟨rfl, rfl, rfl, rfl, rfl, rfl⟩
  · have hv := (isMap_iff f).1 h
    cases hr : inR k 0 1000000000000
    · have Hr := Lib.hid (powR_rng h hr)
      go_enter Try.func7, Try.ntmps7
      go_wp2_with fail
      refine (l01Is_any _ _).mono ?_
      rintro e w1 ⟨rfl, hb⟩
      rw [h]
      have hB1 : Blk w1 (w.heap.size + 1) 26 (mc M0) := Blk.below (Blk.new' _ _ _ (by simp)) hb (by simp <;> omega)
      have hbel : Below w.heap.size w w1 := Below.trans (by (repeat (first | with_reducible assumption | with_reducible exact Below.refl _ _ | with_reducible refine Below.setCell ?_ (by first | omega | (simp <;> omega)) _ | with_reducible refine Below.alloc ?_ (by first | omega | (simp <;> omega)) _ | with_reducible refine Below.drew ?_ | with_reducible refine Below.drewN ?_ _))) (hb.mono (by simp <;> omega))
      clear hb
      obtain ⟨d0, d1, d2, d3, d4, d5⟩ := hB1.six
      obtain ⟨z0, z1, z2, z3, z4, z5⟩ := hB1.fr6
      go_wp2_with fail
      refine (l01In_any _ _ _ _).mono ?_
      rintro e w2 ⟨rfl, rfl⟩
      rw [hr]
      go_wp2
      refine bodyPost_ret (v := .tuple #[.agg (mc M0), I 2]) ?_ rfl ⟨by rw [Hr.out.1, Hr.out.2], by (repeat (first | with_reducible assumption | with_reducible exact Below.refl _ _ | with_reducible refine Below.setCell ?_ (by first | omega | (simp <;> omega)) _ | with_reducible refine Below.alloc ?_ (by first | omega | (simp <;> omega)) _ | with_reducible refine Below.drew ?_ | with_reducible refine Below.drewN ?_ _))⟩
      simp [results, Try.results7, go_sem, *]
      try exact ⟨rfl, rfl, rfl, rfl, rfl, rfl⟩
    · have Hr := Lib.hid (powR_good h hr)
      have hk := inR_true.1 hr
      have hk1 := hk.1
      have hk2 := hk.2
      have hkk : k = (k.toNat : Int) := by omega
      have hpw := fun w' => l01Power_any f k.toNat w' hv (by omega)
      rw [← hkk] at hpw
      have Hpw := Lib.hid hpw
      clear hk hkk hpw
      go_enter Try.func7, Try.ntmps7
      go_wp2_with fail
      refine (l01Is_any _ _).mono ?_
      rintro e w1 ⟨rfl, hb⟩
      rw [h]
      have hB0 : Blk w1 w.heap.size 26 (mc f) := Blk.below ((Blk.new w _ _).alloc _) hb (by simp <;> omega)
      have hB1 : Blk w1 (w.heap.size + 1) 26 (mc M0) := Blk.below (Blk.new' _ _ _ (by simp)) hb (by simp <;> omega)
      have hbel : Below w.heap.size w w1 := Below.trans (by (repeat (first | with_reducible assumption | with_reducible exact Below.refl _ _ | with_reducible refine Below.setCell ?_ (by first | omega | (simp <;> omega)) _ | with_reducible refine Below.alloc ?_ (by first | omega | (simp <;> omega)) _ | with_reducible refine Below.drew ?_ | with_reducible refine Below.drewN ?_ _))) (hb.mono (by simp <;> omega))
      clear hb
      obtain ⟨d0, d1, d2, d3, d4, d5⟩ := hB0.six
      go_wp2_with fail
      refine (l01In_any _ _ _ _).mono ?_
      rintro e w2 ⟨rfl, rfl⟩
      rw [hr]
      go_wp2_with fail
      refine (Hpw.out _).mono ?_
      rintro e w2 ⟨rfl, hb⟩
      replace hB1 := hB1.below hb hB1.lt
      replace hbel := hbel.trans (hb.mono hbel.size)
      clear hb d0 d1 d2 d3 d4 d5
      obtain ⟨d0, d1, d2, d3, d4, d5⟩ := hB1.six
      obtain ⟨z0, z1, z2, z3, z4, z5⟩ := hB1.fr6
      go_wp2
      refine bodyPost_ret (v := .tuple #[.agg (mc (pw f k.toNat)), I 0]) ?_ rfl ⟨by rw [Hr.out.1, Hr.out.2], by (repeat (first | with_reducible assumption | with_reducible exact Below.refl _ _ | with_reducible refine Below.setCell ?_ (by first | omega | (simp <;> omega)) _ | with_reducible refine Below.alloc ?_ (by first | omega | (simp <;> omega)) _ | with_reducible refine Below.drew ?_ | with_reducible refine Below.drewN ?_ _))⟩
      simp [results, Try.results7, go_sem, *]

end Go.Proofs.Ytkbfocoaobiijaa
