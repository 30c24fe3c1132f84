/- Contracts of the small functions on one map (in a range, is a map, copies, products, identities); no conditions beyond those that each theorem states. -/
import Derived.Test.YtkbfocoaobiijaaProg
import Derived.Test.YtkbfocoaobiijaaBase
import Derived.Deep.QuietTactic
import Derived.BigQuiet
import Derived.KernelRfl
import Derived.IntWalk
namespace Go.Proofs.Ytkbfocoaobiijaa
open Go.RowKit
set_option maxRecDepth 100000

theorem within_any (n l h : Int) (w : World) :
    Calls Try.prog 39 #[.int .i64 n, .int .i64 l, .int .i64 h] w fun e w' => e = .returned (.bool (inR n l h)) ∧ w = w' := by
  unfold inR
  by_cases h1 : l ≤ n
  · by_cases h2 : n ≤ h
    · go_enter Try.func39, Try.ntmps39
      go_wp2
      go_ret
      exact ⟨by simp [*], rfl⟩
    · go_enter Try.func39, Try.ntmps39
      go_wp2
      go_ret
      exact ⟨by simp [*], rfl⟩
  · go_enter Try.func39, Try.ntmps39
    go_wp2
    go_ret
    exact ⟨by simp; omega, rfl⟩

theorem l01In_any (n l h : Int) (w : World) :
    Calls Try.prog 42 #[.int .i64 n, .int .i64 l, .int .i64 h] w fun e w' => e = .returned (.bool (inR n l h)) ∧ w = w' := by
  unfold inR
  by_cases h1 : l ≤ n
  · by_cases h2 : n ≤ h
    · go_enter Try.func42, Try.ntmps42
      go_wp2
      go_ret
      exact ⟨by simp [*], rfl⟩
    · go_enter Try.func42, Try.ntmps42
      go_wp2
      go_ret
      exact ⟨by simp [*], rfl⟩
  · go_enter Try.func42, Try.ntmps42
    go_wp2
    go_ret
    exact ⟨by simp; omega, rfl⟩

theorem idx0 (m : M) (w : World) : (Instr.index 24 (.agg (mt m)) (.int .i64 0)).run Try.prog w = .ok (I m.t0) w := by kernel_rfl

theorem idx1 (m : M) (w : World) : (Instr.index 24 (.agg (mt m)) (.int .i64 1)).run Try.prog w = .ok (I m.t1) w := by kernel_rfl

theorem idx2 (m : M) (w : World) : (Instr.index 24 (.agg (mt m)) (.int .i64 2)).run Try.prog w = .ok (I m.t2) w := by kernel_rfl

theorem idx3 (m : M) (w : World) : (Instr.index 24 (.agg (mt m)) (.int .i64 3)).run Try.prog w = .ok (I m.t3) w := by kernel_rfl

theorem idx4 (m : M) (w : World) : (Instr.index 24 (.agg (mt m)) (.int .i64 4)).run Try.prog w = .ok (I m.t4) w := by kernel_rfl

theorem idx_any (m : M) (k : Nat) (hk : k < 5) (w : World) : (Instr.index 24 (.agg (mt m)) (.int .i64 (k : Nat))).run Try.prog w = .ok (I (m.at k)) w :=
  five (P := fun k => (Instr.index 24 (.agg (mt m)) (.int .i64 (k : Nat))).run Try.prog w = .ok (I (m.at k)) w) (idx0 m w) (idx1 m w) (idx2 m w) (idx3 m w) (idx4 m w) k hk

theorem isMap_any (m : M) (w : World) :
    Calls Try.prog 38 #[.agg (mc m)] w fun e w' => e = .returned (.bool (isMap m)) ∧ Below w.heap.size w w' := by
  cases hp : inR m.p 1 5
  · have Hfin : Hid (isMap m = false) := isMap_p hp
    go_enter Try.func38, Try.ntmps38
    go_wp2_with (go_at_call 39; refine (within_any _ _ _ _).mono ?_; rintro e w' ⟨rfl, rfl⟩)
    go_ret
    exact ⟨ret_bool Hfin.out.symm, (Below.refl _ _).alloc (Nat.le_refl _) _⟩
  · have b := hp
    rw [inR_true] at b
    obtain ⟨b1, b2⟩ := b
    have Hp := Lib.hid hp
    go_enter Try.func38, Try.ntmps38
    go_wp2_with (go_at_call 39; refine (within_any _ _ _ _).mono ?_; rintro e w' ⟨rfl, rfl⟩)
    clear hp
    go_loop [11] (fun i => ∃ k : Nat, k ≤ 5 ∧ i = .int .i64 k ∧ Hid (∀ j, j < k → good m j = true)) (fun i => 5 - (intOf i).toNat)
    case atStart => exact ⟨0, by omega, rfl, by intro j hj; omega⟩
    case round =>
      obtain ⟨k, hk, rfl, hg⟩ := hrel
      by_cases hlt : k < 5
      · have hix := idx_any m k hlt
        by_cases hkp : (k : Int) < m.p
        · cases hin : inR (m.at k) 0 (m.p - 1)
          · have Hb : Hid (good m k = false) := by show _ = _; simp [good, hkp, hin]
            go_wp2_with (go_at_call 39; refine (within_any _ _ _ _).mono ?_; rintro e w' ⟨rfl, rfl⟩)
            go_ret
            exact ⟨ret_bool (isMap_false hlt Hb.out).symm, (Below.refl _ _).alloc (Nat.le_refl _) _⟩
          · have Hb : Hid (good m k = true) := by show _ = _; simp [good, hkp, hin]
            go_wp2_with (go_at_call 39; refine (within_any _ _ _ _).mono ?_; rintro e w' ⟨rfl, rfl⟩)
            go_round
            case rel => exact ⟨k + 1, by omega, by go_num, good_step hg.out Hb.out⟩
            case measure => simp [intOf]; omega
        · by_cases hz : m.at k = 0
          · have Hb : Hid (good m k = true) := by show _ = _; simp [good, hkp, hz]
            go_wp2_with (go_at_call 39; refine (within_any _ _ _ _).mono ?_; rintro e w' ⟨rfl, rfl⟩)
            go_round
            case rel => exact ⟨k + 1, by omega, by go_num, good_step hg.out Hb.out⟩
            case measure => simp [intOf]; omega
          · have Hb : Hid (good m k = false) := by show _ = _; simp [good, hkp, hz]
            go_wp2_with (go_at_call 39; refine (within_any _ _ _ _).mono ?_; rintro e w' ⟨rfl, rfl⟩)
            go_ret
            exact ⟨ret_bool (isMap_false hlt Hb.out).symm, (Below.refl _ _).alloc (Nat.le_refl _) _⟩
      · obtain rfl : k = 5 := by omega
        have Hb : Hid (isMap m = true) := isMap_true Hp.out hg.out
        go_wp2
        go_ret
        exact ⟨ret_bool Hb.out.symm, (Below.refl _ _).alloc (Nat.le_refl _) _⟩

theorem l01Is_any (m : M) (w : World) :
    Calls Try.prog 41 #[.agg (mc m)] w fun e w' => e = .returned (.bool (isMap m)) ∧ Below w.heap.size w w' := by
  cases hp : inR m.p 1 5
  · have Hfin : Hid (isMap m = false) := isMap_p hp
    go_enter Try.func41, Try.ntmps41
    go_wp2_with (go_at_call 42; refine (l01In_any _ _ _ _).mono ?_; rintro e w' ⟨rfl, rfl⟩)
    go_ret
    exact ⟨ret_bool Hfin.out.symm, (Below.refl _ _).alloc (Nat.le_refl _) _⟩
  · have b := hp
    rw [inR_true] at b
    obtain ⟨b1, b2⟩ := b
    have Hp := Lib.hid hp
    go_enter Try.func41, Try.ntmps41
    go_wp2_with (go_at_call 42; refine (l01In_any _ _ _ _).mono ?_; rintro e w' ⟨rfl, rfl⟩)
    clear hp
    go_loopw [3] (fun i wr => ∃ k : Nat, k ≤ 5 ∧ i = .int .i64 k ∧ Hid (∀ j, j < k → good m j = true) ∧ Blk wr w.heap.size 26 (mc m) ∧ Below w.heap.size w wr) (fun i _ => 5 - (intOf i).toNat)
    case atStart => exact ⟨0, by omega, rfl, by intro j hj; omega, Blk.new _ _ _, (Below.refl _ _).alloc (Nat.le_refl _) _⟩
    case round =>
      obtain ⟨k, hk, rfl, hg, hB, hbel⟩ := hrel
      by_cases hlt : k < 5
      · have hwr : IntKind.i64.wrap (m.p - 1) = m.p - 1 := IntWalk.i64_in _ (by omega)
        have c0 : wr.cell? ⟨w.heap.size, 0, none⟩ = some (I m.p) := hB.cell 0
        have c1 := hB.at_ hlt
        by_cases hkp : (k : Int) < m.p
        · have hkd : decide ((k : Int) < m.p) = true := by simpa using hkp
          have hke : decide (m.p ≤ (k : Int)) = false := by simpa using hkp
          cases hin : inR (m.at k) 0 (m.p - 1)
          · have Hb : Hid (good m k = false) := by show _ = _; simp [good, hkp, hin]
            go_wp2_with fail
            go_quiet ((go_at_call 42; exact Calls.quiet_of_same ((l01In_any _ _ _ _).mono fun _ _ h => ⟨h.1, h.2.symm⟩)))
            go_wp2
            go_ret
            exact ⟨ret_bool (isMap_false hlt Hb.out).symm, hbel.drewN _⟩
          · have Hb : Hid (good m k = true) := by show _ = _; simp [good, hkp, hin]
            go_wp2_with fail
            go_quiet ((go_at_call 42; exact Calls.quiet_of_same ((l01In_any _ _ _ _).mono fun _ _ h => ⟨h.1, h.2.symm⟩)))
            go_wp2
            go_roundw
            case rel => exact ⟨k + 1, by omega, by go_num, good_step hg.out Hb.out, hB.drewN _, hbel.drewN _⟩
            case measure => simp [intOf]; omega
        · have hkd : decide ((k : Int) < m.p) = false := by simpa using hkp
          have hke : decide (m.p ≤ (k : Int)) = true := by simpa using hkp
          by_cases hz : m.at k = 0
          · have hz' : (m.at k != 0) = false := by simpa using hz
            have Hb : Hid (good m k = true) := by show _ = _; simp [good, hkp, hz]
            go_wp2_with fail
            go_quiet ((go_at_call 42; exact Calls.quiet_of_same ((l01In_any _ _ _ _).mono fun _ _ h => ⟨h.1, h.2.symm⟩)))
            go_wp2
            go_roundw
            case rel => exact ⟨k + 1, by omega, by go_num, good_step hg.out Hb.out, hB.drewN _, hbel.drewN _⟩
            case measure => simp [intOf]; omega
          · have hz' : (m.at k != 0) = true := by simpa using hz
            have Hb : Hid (good m k = false) := by show _ = _; simp [good, hkp, hz]
            go_wp2_with fail
            go_quiet ((go_at_call 42; exact Calls.quiet_of_same ((l01In_any _ _ _ _).mono fun _ _ h => ⟨h.1, h.2.symm⟩)))
            go_wp2
            go_ret
            exact ⟨ret_bool (isMap_false hlt Hb.out).symm, hbel.drewN _⟩
      · obtain rfl : k = 5 := by omega
        have Hb : Hid (isMap m = true) := isMap_true Hp.out hg.out
        go_wp2
        go_ret
        exact ⟨ret_bool Hb.out.symm, hbel⟩

end Go.Proofs.Ytkbfocoaobiijaa
