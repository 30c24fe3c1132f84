/- Contracts of copies, products and identities of maps; the maps are as each theorem states. -/
import Derived.Test.YtkbfocoaobiijaaC1
import Derived.Laws.StructEq
namespace Go.Proofs.Ytkbfocoaobiijaa
open Go.RowKit
set_option maxRecDepth 100000

theorem idxn_any (m : M) (k : Nat) (hk : k < 5) : ∀ w, (Instr.index 24 (.agg (mt m)) (.int .i64 k)).run Try.prog w = .ok (I (m.at k)) w := idx_any m k hk

theorem times_fin {f g : M} {k : Nat} (hf : Valid f) (hk : (k : Int) ≤ f.p) (h : ¬ (k : Int) < f.p) : part f.p (fun j => g.at (f.at j).toNat) f.at k = mul f g := by
  refine mk'_congr fun j hj => ?_
  by_cases hj' : j < k
  · rw [if_pos hj', if_pos (by omega)]
  · rw [if_neg hj', if_neg (by omega)]; exact hf.out j hj (by omega)

theorem times_any (f g : M) (w : World) (hf : Valid f) :
    Calls Try.prog 47 #[.agg (mc f), .agg (mc g)] w fun e w' => e = .returned (.agg (mc (mul f g))) ∧ Below w.heap.size w w' := by
  have hp1 := hf.p1
  have hp5 := hf.p5
  go_enter Try.func47, Try.ntmps47
  go_wp2
  go_loopw [5, 8] (fun _ i wr => ∃ k : Nat, (k : Int) ≤ f.p ∧ i = .int .i64 k ∧ Blk wr w.heap.size 26 (mc (part f.p (fun j => g.at (f.at j).toNat) f.at k)) ∧ Blk wr (w.heap.size+1) 26 (mc g) ∧ Blk wr (w.heap.size+1+1) 26 (mc M0) ∧ Below w.heap.size w wr)
    (fun _ i _ => 5 - (intOf i).toNat)
  case atStart =>
    refine ⟨0, by omega, rfl, ?_, ?_, ?_, ?_⟩
    · rw [part_zero]; exact ((Blk.new w _ _).alloc _).alloc _
    · exact (Blk.new' _ _ _ (by simp)).alloc _
    · exact Blk.new' _ _ _ (by simp)
    · exact (((Below.refl _ _).alloc (Nat.le_refl _) _).alloc (by simp) _).alloc (by simp; omega) _
  case round =>
    obtain ⟨k, hk, rfl, hB1, hB2, hB3, hbel⟩ := hrel
    by_cases hlt : (k : Int) < f.p
    · have hk5 : k < 5 := by omega
      have b2 := hf.lo k hk5 hlt
      have b3 := hf.hi k hk5 hlt
      have c1 := hB1.at_ hk5
      rw [part_at _ _ _ hk5, if_neg (by omega)] at c1
      have c2 := hB2.at_ (k := (f.at k).toNat) (by omega)
      have z1 : wr.frozen? ⟨w.heap.size, 1 + k, none⟩ = false := hB1.frozen _
      have b4 : f.at k < 5 := by omega
      go_wp2
      go_roundw
      case rel => exact ⟨k + 1, by omega, by go_num, (hB1.set_ _ _).cast (part_step _ _ _ hk5 rfl), hB2.far (by simp) _, hB3.far (by simp <;> omega) _, hbel.setCell (by simp) _⟩
      case measure => simp [intOf]; omega
    · have hfin : part f.p (fun j => g.at (f.at j).toNat) f.at k = mul f g := times_fin hf hk hlt
      rw [hfin] at hB1
      clear hfin
      obtain ⟨m, rfl⟩ : ∃ m, m = mul f g := ⟨_, rfl⟩
      obtain ⟨d0, d1, d2, d3, d4, d5⟩ := hB1.six
      obtain ⟨e0, e1, e2, e3, e4, e5⟩ := hB3.six
      obtain ⟨z0, z1, z2, z3, z4, z5⟩ := hB3.fr6
      go_wp2
      refine bodyPost_ret (v := .agg (mc (mul f g))) ?_ rfl ⟨rfl, by (repeat (first | with_reducible assumption | with_reducible exact Below.refl _ _ | with_reducible refine Below.setCell ?_ (by first | omega | (simp <;> omega)) _ | with_reducible refine Below.alloc ?_ (by first | omega | (simp <;> omega)) _ | with_reducible refine Below.drew ?_ | with_reducible refine Below.drewN ?_ _))⟩
      simp [results, Try.results47, go_sem, *]

theorem l01Times_fin {f g : M} {k : Nat} (hk : (k : Int) ≤ f.p) (h : ¬ (k : Int) < f.p) : part f.p (fun j => g.at (f.at j).toNat) (fun _ => 0) k = mul f g := by
  refine mk'_congr fun j _ => ?_
  by_cases hj' : j < k
  · rw [if_pos hj', if_pos (by omega)]
  · rw [if_neg hj', if_neg (by omega)]

theorem l01Times_any (f g : M) (w : World) (hf : Valid f) :
    Calls Try.prog 72 #[.agg (mc f), .agg (mc g)] w fun e w' => e = .returned (.agg (mc (mul f g))) ∧ Below w.heap.size w w' := by
  have hp1 := hf.p1
  have hp5 := hf.p5
  go_enter Try.func72, Try.ntmps72
  go_wp2
  go_loopw [6] (fun i wr => ∃ k : Nat, (k : Int) ≤ f.p ∧ i = .int .i64 k ∧ Blk wr w.heap.size 26 (mc f) ∧ Blk wr (w.heap.size+1) 26 (mc g) ∧ Blk wr (w.heap.size+1+1) 26 (mc M0) ∧ Blk wr (w.heap.size+1+1+1) 26 (mc (part f.p (fun j => g.at (f.at j).toNat) (fun _ => 0) k)) ∧ Below w.heap.size w wr)
    (fun i _ => 5 - (intOf i).toNat)
  case atStart =>
    refine ⟨0, by omega, rfl, ?_, ?_, ?_, ?_, by (repeat (first | with_reducible assumption | with_reducible exact Below.refl _ _ | with_reducible refine Below.setCell ?_ (by first | omega | (simp <;> omega)) _ | with_reducible refine Below.alloc ?_ (by first | omega | (simp <;> omega)) _ | with_reducible refine Below.drew ?_ | with_reducible refine Below.drewN ?_ _))⟩
    · exact (((Blk.new w _ _).alloc _).alloc _).alloc _
    · exact ((Blk.new' _ _ _ (by simp)).alloc _).alloc _
    · exact (Blk.new' _ _ _ (by simp)).alloc _
    · rw [part_zero]; exact Blk.new' _ _ _ (by simp)
  case round =>
    obtain ⟨k, hk, rfl, hB1, hB2, hB3, hB4, hbel⟩ := hrel
    have c0 : wr.cell? ⟨w.heap.size, 0, none⟩ = some (I f.p) := hB1.cell 0
    by_cases hlt : (k : Int) < f.p
    · have hk5 : k < 5 := by omega
      have b2 := hf.lo k hk5 hlt
      have b3 := hf.hi k hk5 hlt
      have c1 := hB1.at_ hk5
      have c2 := hB2.at_ (k := (f.at k).toNat) (by omega)
      have c3 := hB4.at_ hk5
      have z1 : wr.frozen? ⟨w.heap.size+1+1+1, 1 + k, none⟩ = false := hB4.frozen _
      have b4 : f.at k < 5 := by omega
      go_wp2
      go_roundw
      case rel => exact ⟨k + 1, by omega, by go_num, hB1.far (by simp <;> omega) _, hB2.far (by simp <;> omega) _, hB3.far (by simp) _, (hB4.set_ _ _).cast (part_step _ _ _ hk5 rfl), by (repeat (first | with_reducible assumption | with_reducible exact Below.refl _ _ | with_reducible refine Below.setCell ?_ (by first | omega | (simp <;> omega)) _ | with_reducible refine Below.alloc ?_ (by first | omega | (simp <;> omega)) _ | with_reducible refine Below.drew ?_ | with_reducible refine Below.drewN ?_ _))⟩
      case measure => simp [intOf]; omega
    · have hfin : part f.p (fun j => g.at (f.at j).toNat) (fun _ => 0) k = mul f g := l01Times_fin hk hlt
      rw [hfin] at hB4
      clear hfin
      obtain ⟨d0, d1, d2, d3, d4, d5⟩ := hB4.six
      obtain ⟨e0, e1, e2, e3, e4, e5⟩ := hB3.six
      obtain ⟨z0, z1, z2, z3, z4, z5⟩ := hB3.fr6
      go_wp2
      refine bodyPost_ret (v := .agg (mc (mul f g))) ?_ rfl ⟨rfl, by (repeat (first | with_reducible assumption | with_reducible exact Below.refl _ _ | with_reducible refine Below.setCell ?_ (by first | omega | (simp <;> omega)) _ | with_reducible refine Below.alloc ?_ (by first | omega | (simp <;> omega)) _ | with_reducible refine Below.drew ?_ | with_reducible refine Below.drewN ?_ _))⟩
      simp [results, Try.results72, go_sem, *]

theorem one_fin {n : Int} {k : Nat} (hk : (k : Int) ≤ n) (h : ¬ (k : Int) < n) : part n (fun j => (j : Int)) (fun _ => 0) k = one n := by
  refine mk'_congr fun j _ => ?_
  by_cases hj' : j < k
  · rw [if_pos hj', if_pos (by omega)]
  · rw [if_neg hj', if_neg (by omega)]

theorem identity_any (n : Int) (w : World) (h1 : 1 ≤ n) (h5 : n ≤ 5) :
    Calls Try.prog 70 #[.int .i64 n] w fun e w' => e = .returned (.agg (mc (one n))) ∧ Below w.heap.size w w' := by
  go_enter Try.func70, Try.ntmps70
  go_wp2
  go_loopw [8] (fun i wr => ∃ k : Nat, (k : Int) ≤ n ∧ i = .int .i64 k ∧ Blk wr w.heap.size 26 (mc M0) ∧ Blk wr (w.heap.size+1) 26 (mc (part n (fun j => (j : Int)) (fun _ => 0) k)) ∧ Below w.heap.size w wr)
    (fun i _ => 5 - (intOf i).toNat)
  case atStart =>
    refine ⟨0, by omega, rfl, ?_, ?_, by (repeat (first | with_reducible assumption | with_reducible exact Below.refl _ _ | with_reducible refine Below.setCell ?_ (by first | omega | (simp <;> omega)) _ | with_reducible refine Below.alloc ?_ (by first | omega | (simp <;> omega)) _ | with_reducible refine Below.drew ?_ | with_reducible refine Below.drewN ?_ _))⟩
    · exact (Blk.new w _ _).alloc _
    · rw [part_zero]; exact Blk.new' _ _ _ (by simp)
  case round =>
    obtain ⟨k, hk, rfl, hB1, hB2, hbel⟩ := hrel
    by_cases hlt : (k : Int) < n
    · have hk5 : k < 5 := by omega
      have c3 := hB2.at_ hk5
      have z1 : wr.frozen? ⟨w.heap.size+1, 1 + k, none⟩ = false := hB2.frozen _
      go_wp2
      go_roundw
      case rel => exact ⟨k + 1, by omega, by go_num, hB1.far (by simp) _, (hB2.set_ _ _).cast (part_step _ _ _ hk5 rfl), by (repeat (first | with_reducible assumption | with_reducible exact Below.refl _ _ | with_reducible refine Below.setCell ?_ (by first | omega | (simp <;> omega)) _ | with_reducible refine Below.alloc ?_ (by first | omega | (simp <;> omega)) _ | with_reducible refine Below.drew ?_ | with_reducible refine Below.drewN ?_ _))⟩
      case measure => simp [intOf]; omega
    · have hfin : part n (fun j => (j : Int)) (fun _ => 0) k = one n := one_fin hk hlt
      rw [hfin] at hB2
      clear hfin
      obtain ⟨d0, d1, d2, d3, d4, d5⟩ := hB2.six
      obtain ⟨e0, e1, e2, e3, e4, e5⟩ := hB1.six
      obtain ⟨z0, z1, z2, z3, z4, z5⟩ := hB1.fr6
      go_wp2
      refine bodyPost_ret (v := .agg (mc (one n))) ?_ rfl ⟨rfl, by (repeat (first | with_reducible assumption | with_reducible exact Below.refl _ _ | with_reducible refine Below.setCell ?_ (by first | omega | (simp <;> omega)) _ | with_reducible refine Below.alloc ?_ (by first | omega | (simp <;> omega)) _ | with_reducible refine Below.drew ?_ | with_reducible refine Below.drewN ?_ _))⟩
      simp [results, Try.results70, go_sem, *]

theorem l01Identity_any (n : Int) (w : World) (h1 : 1 ≤ n) (h5 : n ≤ 5) :
    Calls Try.prog 71 #[.int .i64 n] w fun e w' => e = .returned (.agg (mc (one n))) ∧ Below w.heap.size w w' := by
  go_enter Try.func71, Try.ntmps71
  go_wp2
  go_loopw [4] (fun i wr => ∃ k : Nat, (k : Int) ≤ n ∧ i = .int .i64 k ∧ Blk wr w.heap.size 26 (mc M0) ∧ Blk wr (w.heap.size+1) 26 (mc (part n (fun j => (j : Int)) (fun _ => 0) k)) ∧ Below w.heap.size w wr)
    (fun i _ => 5 - (intOf i).toNat)
  case atStart =>
    refine ⟨0, by omega, rfl, ?_, ?_, by (repeat (first | with_reducible assumption | with_reducible exact Below.refl _ _ | with_reducible refine Below.setCell ?_ (by first | omega | (simp <;> omega)) _ | with_reducible refine Below.alloc ?_ (by first | omega | (simp <;> omega)) _ | with_reducible refine Below.drew ?_ | with_reducible refine Below.drewN ?_ _))⟩
    · exact (Blk.new w _ _).alloc _
    · rw [part_zero]; exact Blk.new' _ _ _ (by simp)
  case round =>
    obtain ⟨k, hk, rfl, hB1, hB2, hbel⟩ := hrel
    by_cases hlt : (k : Int) < n
    · have hk5 : k < 5 := by omega
      have c3 := hB2.at_ hk5
      have z1 : wr.frozen? ⟨w.heap.size+1, 1 + k, none⟩ = false := hB2.frozen _
      go_wp2
      go_roundw
      case rel => exact ⟨k + 1, by omega, by go_num, hB1.far (by simp) _, (hB2.set_ _ _).cast (part_step _ _ _ hk5 rfl), by (repeat (first | with_reducible assumption | with_reducible exact Below.refl _ _ | with_reducible refine Below.setCell ?_ (by first | omega | (simp <;> omega)) _ | with_reducible refine Below.alloc ?_ (by first | omega | (simp <;> omega)) _ | with_reducible refine Below.drew ?_ | with_reducible refine Below.drewN ?_ _))⟩
      case measure => simp [intOf]; omega
    · have hfin : part n (fun j => (j : Int)) (fun _ => 0) k = one n := one_fin hk hlt
      rw [hfin] at hB2
      clear hfin
      obtain ⟨d0, d1, d2, d3, d4, d5⟩ := hB2.six
      obtain ⟨e0, e1, e2, e3, e4, e5⟩ := hB1.six
      obtain ⟨z0, z1, z2, z3, z4, z5⟩ := hB1.fr6
      go_wp2
      refine bodyPost_ret (v := .agg (mc (one n))) ?_ rfl ⟨rfl, by (repeat (first | with_reducible assumption | with_reducible exact Below.refl _ _ | with_reducible refine Below.setCell ?_ (by first | omega | (simp <;> omega)) _ | with_reducible refine Below.alloc ?_ (by first | omega | (simp <;> omega)) _ | with_reducible refine Below.drew ?_ | with_reducible refine Below.drewN ?_ _))⟩
      simp [results, Try.results71, go_sem, *]

theorem toA5_fin {m : M} {k : Nat} (h : 5 ≤ k) : part m.p m.at (fun _ => 0) k = m := by
  refine M.ext5 rfl fun j hj => ?_
  rw [part_at _ _ _ hj, if_pos (by omega)]

theorem run_sizeI (w : World) : Sem.run Try.prog (sizeOf 2) w = .ok 1 w := by kernel_rfl

theorem part_mt0 (m : M) (w : World) : Sem.run Try.prog (Go.part 2 (mt m) 0) w = .ok (I m.t0) w := by kernel_rfl

theorem part_mt1 (m : M) (w : World) : Sem.run Try.prog (Go.part 2 (mt m) 1) w = .ok (I m.t1) w := by kernel_rfl

theorem part_mt2 (m : M) (w : World) : Sem.run Try.prog (Go.part 2 (mt m) 2) w = .ok (I m.t2) w := by kernel_rfl

theorem part_mt3 (m : M) (w : World) : Sem.run Try.prog (Go.part 2 (mt m) 3) w = .ok (I m.t3) w := by kernel_rfl

theorem part_mt4 (m : M) (w : World) : Sem.run Try.prog (Go.part 2 (mt m) 4) w = .ok (I m.t4) w := by kernel_rfl

theorem eqArr (d : Nat) (a b : M) (w : World) : Sem.run Try.prog (Op.equalIn (d+2) 24 (.agg (mt a)) (.agg (mt b))) w = .ok (a.t0 == b.t0 && (a.t1 == b.t1 && (a.t2 == b.t2 && (a.t3 == b.t3 && a.t4 == b.t4)))) w := by
  have hI : Try.prog.underlying 2 = some (.int .i64) := Try.underlying2
  have h23 := Try.underlying24
  rw [show d + 2 = (d+1)+1 from rfl]
  unfold Op.equalIn
  simp only [Sem.run_bind, run_underlying h23, Result.andThen_ok, run_sizeI]
  simp only [Std.Legacy.Range.forIn_eq_forIn_range', Std.Legacy.Range.size, List.range'_succ, List.range'_zero, List.forIn_cons, List.forIn_nil]
  simp [Sem.run_bind, part_mt0, part_mt1, part_mt2, part_mt3, part_mt4, run_equalIn_int _ d 2 _ _ _ _ hI]
  by_cases h0 : a.t0 = b.t0
  · by_cases h1 : a.t1 = b.t1
    · by_cases h2 : a.t2 = b.t2
      · by_cases h3 : a.t3 = b.t3
        · by_cases h4 : a.t4 = b.t4 <;> simp [*]
        · simp [*]
      · simp [*]
    · simp [*]
  · simp [*]

theorem eqM_iff (a b : M) : decide (a = b) = (a.p == b.p && (a.t0 == b.t0 && (a.t1 == b.t1 && (a.t2 == b.t2 && (a.t3 == b.t3 && a.t4 == b.t4))))) := by
  obtain ⟨p, a0, a1, a2, a3, a4⟩ := a
  obtain ⟨q, b0, b1, b2, b3, b4⟩ := b
  rw [Bool.eq_iff_iff]; simp

theorem eqMap_run (a b : M) (w : World) : Sem.run Try.prog (Op.equalIn 10000 26 (.agg (mc a)) (.agg (mc b))) w = .ok (decide (a = b)) w := by
  rw [eqM_iff]
  have h := eqArr 9997 a b w
  go_simp
  by_cases h0 : a.p = b.p
  · by_cases h1 : a.t0 = b.t0
    · by_cases h2 : a.t1 = b.t1
      · by_cases h3 : a.t2 = b.t2
        · by_cases h4 : a.t3 = b.t3
          · by_cases h5 : a.t4 = b.t4 <;> simp [*]
          · simp [*]
        · simp [*]
      · simp [*]
    · simp [*]
  · simp [*]

end Go.Proofs.Ytkbfocoaobiijaa
