/- Contracts of ranks, inverses and renumbered maps; the maps are valid where the theorems say so. -/
import Derived.Test.YtkbfocoaobiijaaD8
import Derived.Test.YtkbfocoaobiijaaC5
import Derived.Deep.RegionWith
namespace Go.Proofs.Ytkbfocoaobiijaa
open Go.RowKit
set_option maxRecDepth 100000

/-- the rank -/
def rk (f : M) : Nat := (sel (imQ f (ups f.p.toNat)) 5).length

theorem imQ_ups {f : M} {n : Nat} {k : Nat} : imQ f (ups n) k = true ↔ ∃ i, i < n ∧ f.at i = k := by
  rw [imQ, decide_eq_true_eq, led, List.mem_map]
  constructor
  · rintro ⟨z, hz, e⟩
    obtain ⟨i, hi, rfl⟩ := ups_mem hz
    exact ⟨i, hi, by simpa using e⟩
  · rintro ⟨i, hi, e⟩
    exact ⟨(i : Int), by simp [ups]; exact ⟨i, hi, rfl⟩, by simpa using e⟩
def onesN (m : Nat) : Nat := m % 2 + m / 2 % 2 + m / 4 % 2 + m / 8 % 2 + m / 16 % 2

theorem ones_fin : ∀ m : Fin 32, (sel (bq m.val) 5).length = onesN m.val := by decide +kernel
theorem ones_step {m : Nat} (h : m < 32) : onesN m = m % 2 + onesN (m / 2) := by unfold onesN; omega
theorem ones_le (m : Nat) : onesN m ≤ 5 := by unfold onesN; omega
theorem rk_im {f : M} (hf : Valid f) : onesN (im f f.p.toNat) = rk f := by
  have h5 := hf.p5
  have hlt := im_lt hf f.p.toNat (by have := hf.p1; omega)
  rw [← ones_fin ⟨_, hlt⟩, rk]
  congr 1
  refine sel_ext fun k hk => ?_
  rw [Bool.eq_iff_iff, bq_nat, im_bit, imQ_ups]
  constructor
  · rintro ⟨i, hi, e⟩; exact ⟨i, hi, by have := hf.lo i (by omega) (by omega); omega⟩
  · rintro ⟨i, hi, e⟩; exact ⟨i, hi, by omega⟩
theorem rk_le (f : M) : rk f ≤ 5 := sel_length _ _

theorem l01Ones_any (m : Nat) (w : World) (hm : m < 32) :
    Calls Try.prog 80 #[I m] w fun e w' => e = .returned (I (onesN m)) ∧ w = w' := by
  go_enter Try.func80, Try.ntmps80
  go_wp2
  go_loop [0, 3] (fun n c => ∃ j k : Nat, n = .int .i64 j ∧ c = .int .i64 k ∧ j < 32 ∧ Hid (k + onesN j = onesN m)) (fun n _ => (intOf n).toNat)
  case atStart => exact ⟨m, 0, rfl, rfl, hm, by show _ = _; omega⟩
  case round =>
    obtain ⟨j, k, rfl, rfl, hj, H⟩ := hrel
    have hk5 : k ≤ 5 := by have := H.out; have := ones_le m; omega
    by_cases hz : 0 < j
    · have hd : (j : Int).tdiv 2 = ((j / 2 : Nat) : Int) := by rw [Int.tdiv_eq_ediv_of_nonneg (by omega)]; omega
      have hr : (j : Int).tmod 2 = ((j % 2 : Nat) : Int) := by rw [Int.tmod_eq_emod_of_nonneg (by omega)]; omega
      have Hs : Hid (k + j % 2 + onesN (j / 2) = onesN m) := by have := H.out; have := ones_step hj; show _ = _; omega
      have hz2 : (0 : Int) < (j : Int) := by omega
      go_wp2
      go_round
      case rel => exact ⟨j / 2, k + j % 2, by go_num, by go_num, by omega, Hs.out⟩
      case measure => simp [intOf]; omega
    · obtain rfl : j = 0 := by omega
      have Hr : Hid ((k : Int) = (onesN m : Int)) := by have := H.out; have h0 : onesN 0 = 0 := rfl; show _ = _; omega
      go_wp2
      go_ret
      exact ⟨ret_int Hr.out, rfl⟩

theorem l01Rank_any (f : M) (w : World) (hf : Valid f) :
    Calls Try.prog 60 #[.agg (mc f)] w fun e w' => e = .returned (I (rk f)) ∧ Below w.heap.size w w' := by
  have Hr := Lib.hid (rk_im hf)
  have hlt := im_lt hf f.p.toNat (by have := hf.p1; omega)
  go_enter Try.func60, Try.ntmps60
  go_wp2_with fail
  refine (l01Image_any f _ hf).mono ?_
  rintro e w1 ⟨rfl, hb⟩
  have hl : Below w.heap.size w w1 := Below.trans (by (repeat (first | with_reducible assumption | with_reducible exact Below.refl _ _ | with_reducible refine Below.setCell ?_ (by first | omega | (simp <;> omega)) _ | with_reducible refine Below.alloc ?_ (by first | omega | (simp <;> omega)) _ | with_reducible refine Below.drew ?_ | with_reducible refine Below.drewN ?_ _))) (hb.mono (by simp <;> omega))
  go_wp2_with fail
  refine (l01Ones_any _ _ hlt).mono ?_
  rintro e w2 ⟨rfl, rfl⟩
  go_wp2
  go_ret
  exact ⟨by rw [Hr.out] <;> rfl, hl⟩

set_option maxHeartbeats 1000000 in
theorem rank_any (f : M) (w : World) (hv : Valid f) :
    Calls Try.prog 53 #[.agg (mc f)] w fun e w' => e = .returned (I (rk f)) ∧ Below w.heap.size w w' := by
  have hp1 := hv.p1
  have hp5 := hv.p5
  obtain ⟨n, hn⟩ : ∃ n : Nat, n = f.p.toNat := ⟨_, rfl⟩
  have hfp : f.p = (n : Int) := by omega
  have Hrk : Hid (rk f = (sel (imQ f (ups n)) 5).length) := by show _ = _; rw [hn]; rfl
  have hpt := fun w' => points_any n w' (by omega)
  rw [← hfp] at hpt
  have Hpt := Lib.hid hpt
  have hn1 : 1 ≤ n := by omega
  have hn5 : n ≤ 5 := by omega
  have Hbd : Hid (∀ j, j < (ups n).length → 0 ≤ gi (ups n) j ∧ gi (ups n) j < f.p) := by
    intro j hj
    rw [ups_length] at hj
    rw [gi_ups hj]
    omega
  clear hpt hfp hn
  go_enter Try.func53, Try.ntmps53
  go_wp2_with fail
  go_region_with (first
    | (go_at_call 75
       refine (Hpt.out _).mono ?_
       rintro e w1 ⟨v, rfl, ho, hb⟩
       have hB1 : Six w1 w.heap.size f := Six.below (Blk.six (Blk.drew (Blk.new w _ _))) hb (by simp)
       have hbel : Below w.heap.size w w1 := Below.trans (by (repeat (first | with_reducible assumption | with_reducible exact Below.refl _ _ | with_reducible refine Below.setCell ?_ (by first | omega | (simp <;> omega)) _ | with_reducible refine Below.alloc ?_ (by first | omega | (simp <;> omega)) _ | with_reducible refine Below.drew ?_ | with_reducible refine Below.drewN ?_ _))) (hb.mono (by simp <;> omega))
       obtain ⟨A, c, hv', hr⟩ := ho.form
       rw [ups_length] at hv'
       subst hv'
       clear hb ho)
    | (go_at_call 77
       refine (image_any f A n c (ups n) _ hv hr (ups_length n) (by omega) Hbd.out).mono ?_
       rintro e w2 ⟨v, rfl, ho, hb⟩
       replace hbel := hbel.trans (hb.mono hbel.size)
       obtain ⟨A2, c2, hv', _⟩ := ho.form
       rw [← Hrk.out] at hv'
       subst hv'
       clear hb ho))
  all_goals
    go_wp2
    go_ret
    exact ⟨rfl, hbel⟩

theorem isPerm_any (f : M) (w : World) (hv : Valid f) :
    Calls Try.prog 58 #[.agg (mc f)] w fun e w' => e = .returned (.bool (decide ((rk f : Int) = f.p))) ∧ Below w.heap.size w w' := by
  go_enter Try.func58, Try.ntmps58
  go_wp2_with fail
  go_region_with (
       go_at_call 53
       refine (rank_any f _ hv).mono ?_
       rintro e w1 ⟨rfl, hb⟩
       have hB1 : Six w1 w.heap.size f := Six.below (Blk.six (Blk.drew (Blk.new w _ _))) hb (by simp)
       have hbel : Below w.heap.size w w1 := Below.trans (by (repeat (first | with_reducible assumption | with_reducible exact Below.refl _ _ | with_reducible refine Below.setCell ?_ (by first | omega | (simp <;> omega)) _ | with_reducible refine Below.alloc ?_ (by first | omega | (simp <;> omega)) _ | with_reducible refine Below.drew ?_ | with_reducible refine Below.drewN ?_ _))) (hb.mono (by simp <;> omega))
       clear hb)
  all_goals
    go_wp2
    go_ret
    exact ⟨ret_bool (by first | rfl | simp), hbel⟩

/-! ### inverses -/
def ivF (f : M) (b : Nat → Int) : Nat → Nat → Int
  | 0, j => b j
  | k + 1, j => if j = (f.at k).toNat then (k : Int) else ivF f b k j
theorem ivF_hit {f : M} {b b' : Nat → Int} {j : Nat} : ∀ {k : Nat}, (∃ i, i < k ∧ (f.at i).toNat = j) → ivF f b k j = ivF f b' k j
  | 0, h => by obtain ⟨i, hi, _⟩ := h; omega
  | k + 1, h => by
    rw [ivF, ivF]
    split
    · rfl
    · rename_i hne
      obtain ⟨i, hi, e⟩ := h
      refine ivF_hit ⟨i, ?_, e⟩
      by_cases h : i = k
      · subst h; exact absurd e.symm hne
      · omega
theorem ivF_miss {f : M} {b : Nat → Int} {j : Nat} : ∀ {k : Nat}, (∀ i, i < k → (f.at i).toNat ≠ j) → ivF f b k j = b j
  | 0, _ => rfl
  | k + 1, h => by rw [ivF, if_neg (fun e => h k (by omega) e.symm), ivF_miss fun i hi => h i (by omega)]
theorem ivF_bd {f : M} {j : Nat} (h1 : 1 ≤ f.p) : ∀ {k : Nat}, (k : Int) ≤ f.p → 0 ≤ ivF f (fun _ => 0) k j ∧ ivF f (fun _ => 0) k j < f.p
  | 0, _ => by rw [ivF]; omega
  | k + 1, h => by
    rw [ivF]
    split
    · omega
    · exact ivF_bd h1 (by omega)
/-- the map with so many points turned -/
def ivM (f : M) (b : Nat → Int) (k : Nat) : M := M.mk' f.p (ivF f b k)
/-- the inverse -/
def inv (f : M) : M := M.mk' f.p (ivF f (fun _ => 0) f.p.toNat)

theorem p_inv (f : M) : (inv f).p = f.p := rfl
theorem inv_valid {f : M} (hf : Valid f) : Valid (inv f) := by
  have h1 := hf.p1
  refine ⟨hf.p1, hf.p5, ?_, ?_, ?_⟩
  · intro k hk _; rw [inv, at_mk' _ _ hk]; exact (ivF_bd h1 (by omega)).1
  · intro k hk _; rw [p_inv, inv, at_mk' _ _ hk]; exact (ivF_bd h1 (by omega)).2
  · intro k hk hp
    rw [p_inv] at hp
    have h5 := hf.p5
    rw [inv, at_mk' _ _ hk, ivF_miss]
    intro i hi e
    have := hf.hi i (by omega) (by omega)
    omega
theorem perm_hit {f : M} (hf : Valid f) (h : (rk f : Int) = f.p) {j : Nat} (hj : (j : Int) < f.p) : ∃ i, i < f.p.toNat ∧ f.at i = j := by
  have h5 := hf.p5
  rw [rk, sel_far (n := f.p.toNat) (by omega)] at h
  · have h2 : (sel (imQ f (ups f.p.toNat)) f.p.toNat).length = (ups f.p.toNat).length := by rw [ups_length]; omega
    rw [sel, List.length_filter_eq_length_iff] at h2
    have h3 := h2 (j : Int) (by simp [ups]; exact ⟨j, by omega, rfl⟩)
    exact imQ_ups.1 h3
  · intro k h1 h2
    rw [Bool.eq_false_iff]
    intro hb
    obtain ⟨i, hi, e⟩ := imQ_ups.1 hb
    have := hf.hi i (by omega) (by omega)
    omega
theorem inv_eq {f : M} (hf : Valid f) (h : (rk f : Int) = f.p) : M.mk' f.p (ivF f f.at f.p.toNat) = inv f := by
  have h5 := hf.p5
  refine mk'_congr fun j hj => ?_
  by_cases hp : (j : Int) < f.p
  · obtain ⟨i, hi, e⟩ := perm_hit hf h hp
    exact ivF_hit ⟨i, hi, by omega⟩
  · have hm : ∀ i, i < f.p.toNat → (f.at i).toNat ≠ j := by
      intro i hi e
      have := hf.hi i (by omega) (by omega)
      omega
    rw [ivF_miss hm, ivF_miss hm, hf.out j hj (by omega)]
theorem ivM_step (f : M) (b : Nat → Int) {k : Nat} (h : (f.at k).toNat < 5) : (mc (ivM f b k)).setIfInBounds (1 + (f.at k).toNat) (I k) = mc (ivM f b (k + 1)) := mc_set _ _ _ h
theorem ivM_self (f : M) : ivM f f.at 0 = f := rfl
theorem ivM_inv (f : M) : ivM f (fun _ => 0) f.p.toNat = inv f := rfl

theorem inverse_any (f : M) (w : World) (hf : Valid f) :
    Calls Try.prog 59 #[.agg (mc f)] w fun e w' => e = .returned (.agg (mc (ivM f f.at f.p.toNat))) ∧ Below w.heap.size w w' := by
  have hp1 := hf.p1
  have hp5 := hf.p5
  obtain ⟨r, hr⟩ : ∃ r, r = ivM f f.at f.p.toNat := ⟨_, rfl⟩
  rw [← hr]
  have Hr := Lib.hid hr
  clear hr
  go_enter Try.func59, Try.ntmps59
  go_wp2
  go_loopw [8] (fun i wr => ∃ k : Nat, (k : Int) ≤ f.p ∧ i = .int .i64 k ∧ Blk wr w.heap.size 26 (mc f) ∧ Blk wr (w.heap.size + 1) 26 (mc M0) ∧ Blk wr (w.heap.size + 1 + 1) 26 (mc (ivM f f.at k)) ∧ Below w.heap.size w wr)
    (fun i _ => 5 - (intOf i).toNat)
  case atStart =>
    refine ⟨0, by omega, rfl, ?_, ?_, ?_, by (repeat (first | with_reducible assumption | with_reducible exact Below.refl _ _ | with_reducible refine Below.setCell ?_ (by first | omega | (simp <;> omega)) _ | with_reducible refine Below.alloc ?_ (by first | omega | (simp <;> omega)) _ | with_reducible refine Below.drew ?_ | with_reducible refine Below.drewN ?_ _))⟩
    · exact ((Blk.new w _ _).alloc _).alloc _
    · exact (Blk.new' _ _ _ (by simp)).alloc _
    · rw [ivM_self]; exact Blk.new' _ _ _ (by simp)
  case round =>
    obtain ⟨k, hk, rfl, hB1, hB2, hB3, hbel⟩ := hrel
    by_cases hlt : (k : Int) < f.p
    · have hk5 : k < 5 := by omega
      have b2 := hf.lo k hk5 hlt
      have b3 := hf.hi k hk5 hlt
      have c1 := hB1.at_ hk5
      have b4 : f.at k < 5 := by omega
      have c3 := hB3.at_ (k := (f.at k).toNat) (by omega)
      have z1 : wr.frozen? ⟨w.heap.size + 1 + 1, 1 + (f.at k).toNat, none⟩ = false := hB3.frozen _
      go_wp2
      go_roundw
      case rel => exact ⟨k + 1, by omega, by go_num, hB1.far (by simp <;> omega) _, hB2.far (by simp <;> omega) _, (hB3.set_ _ _).cast (ivM_step f _ (by omega)), by (repeat (first | with_reducible assumption | with_reducible exact Below.refl _ _ | with_reducible refine Below.setCell ?_ (by first | omega | (simp <;> omega)) _ | with_reducible refine Below.alloc ?_ (by first | omega | (simp <;> omega)) _ | with_reducible refine Below.drew ?_ | with_reducible refine Below.drewN ?_ _))⟩
      case measure => simp [intOf]; omega
    · obtain rfl : k = f.p.toNat := by omega
      rw [← Hr.out] at hB3
      obtain ⟨d0, d1, d2, d3, d4, d5⟩ := hB3.six
      obtain ⟨e0, e1, e2, e3, e4, e5⟩ := hB2.six
      obtain ⟨z0, z1, z2, z3, z4, z5⟩ := hB2.fr6
      go_wp2
      refine bodyPost_ret (v := .agg (mc r)) ?_ rfl ⟨rfl, by (repeat (first | with_reducible assumption | with_reducible exact Below.refl _ _ | with_reducible refine Below.setCell ?_ (by first | omega | (simp <;> omega)) _ | with_reducible refine Below.alloc ?_ (by first | omega | (simp <;> omega)) _ | with_reducible refine Below.drew ?_ | with_reducible refine Below.drewN ?_ _))⟩
      simp [results, Try.results59, go_sem, *]

theorem l01Inverse_any (f : M) (w : World) (hf : Valid f) :
    Calls Try.prog 61 #[.agg (mc f)] w fun e w' => e = .returned (.agg (mc (inv f))) ∧ Below w.heap.size w w' := by
  have hp1 := hf.p1
  have hp5 := hf.p5
  obtain ⟨r, hr⟩ : ∃ r, r = inv f := ⟨_, rfl⟩
  rw [← hr]
  have Hi : Hid (r = ivM f (fun _ => 0) f.p.toNat) := hr
  clear hr
  go_enter Try.func61, Try.ntmps61
  go_wp2
  go_loopw [4] (fun i wr => ∃ k : Nat, (k : Int) ≤ f.p ∧ i = .int .i64 k ∧ Blk wr w.heap.size 26 (mc f) ∧ Blk wr (w.heap.size + 1) 26 (mc M0) ∧ Blk wr (w.heap.size + 1 + 1) 26 (mc (ivM f (fun _ => 0) k)) ∧ Below w.heap.size w wr)
    (fun i _ => 5 - (intOf i).toNat)
  case atStart =>
    refine ⟨0, by omega, rfl, ?_, ?_, ?_, by (repeat (first | with_reducible assumption | with_reducible exact Below.refl _ _ | with_reducible refine Below.setCell ?_ (by first | omega | (simp <;> omega)) _ | with_reducible refine Below.alloc ?_ (by first | omega | (simp <;> omega)) _ | with_reducible refine Below.drew ?_ | with_reducible refine Below.drewN ?_ _))⟩
    · exact ((Blk.new w _ _).alloc _).alloc _
    · exact (Blk.new' _ _ _ (by simp)).alloc _
    · exact Blk.new' _ _ _ (by simp)
  case round =>
    obtain ⟨k, hk, rfl, hB1, hB2, hB3, hbel⟩ := hrel
    have c0 : wr.cell? ⟨w.heap.size, 0, none⟩ = some (I f.p) := hB1.cell 0
    by_cases hlt : (k : Int) < f.p
    · have hk5 : k < 5 := by omega
      have b2 := hf.lo k hk5 hlt
      have b3 := hf.hi k hk5 hlt
      have c1 := hB1.at_ hk5
      have b4 : f.at k < 5 := by omega
      have c3 := hB3.at_ (k := (f.at k).toNat) (by omega)
      have z1 : wr.frozen? ⟨w.heap.size + 1 + 1, 1 + (f.at k).toNat, none⟩ = false := hB3.frozen _
      go_wp2
      go_roundw
      case rel => exact ⟨k + 1, by omega, by go_num, hB1.far (by simp <;> omega) _, hB2.far (by simp <;> omega) _, (hB3.set_ _ _).cast (ivM_step f _ (by omega)), by (repeat (first | with_reducible assumption | with_reducible exact Below.refl _ _ | with_reducible refine Below.setCell ?_ (by first | omega | (simp <;> omega)) _ | with_reducible refine Below.alloc ?_ (by first | omega | (simp <;> omega)) _ | with_reducible refine Below.drew ?_ | with_reducible refine Below.drewN ?_ _))⟩
      case measure => simp [intOf]; omega
    · obtain rfl : k = f.p.toNat := by omega
      rw [← Hi.out] at hB3
      obtain ⟨d0, d1, d2, d3, d4, d5⟩ := hB3.six
      obtain ⟨e0, e1, e2, e3, e4, e5⟩ := hB2.six
      obtain ⟨z0, z1, z2, z3, z4, z5⟩ := hB2.fr6
      go_wp2
      refine bodyPost_ret (v := .agg (mc r)) ?_ rfl ⟨rfl, by (repeat (first | with_reducible assumption | with_reducible exact Below.refl _ _ | with_reducible refine Below.setCell ?_ (by first | omega | (simp <;> omega)) _ | with_reducible refine Below.alloc ?_ (by first | omega | (simp <;> omega)) _ | with_reducible refine Below.drew ?_ | with_reducible refine Below.drewN ?_ _))⟩
      simp [results, Try.results61, go_sem, *]
end Go.Proofs.Ytkbfocoaobiijaa
