/- Contracts of the greatest number of a list, on both sides, of the count of classes and of the test of a kind; conditions as each theorem states. -/
import Derived.Test.YtkbfocoaobiijaaGreatNC
import Derived.Test.YtkbfocoaobiijaaGreatC14
namespace Go.Proofs.YtkbfocoaobiijaaGreat
open Go.RowKit
set_option maxRecDepth 100000
set_option linter.unusedSimpArgs false
set_option linter.unusedVariables false

def mxT (zs : List Int) : Nat → Int
  | 0 => -1
  | k + 1 => max (mxT zs k) (gi zs k)
theorem mxT_ge (zs : List Int) : ∀ {k j : Nat}, j < k → gi zs j ≤ mxT zs k
  | 0, j, h => by omega
  | k + 1, j, h => by
    unfold mxT
    by_cases e : j = k
    · subst e; omega
    · have := mxT_ge zs (k := k) (j := j) (by omega); omega
theorem mxT_le (zs : List Int) {b : Int} (hb : -1 ≤ b) : ∀ {k : Nat}, (∀ j, j < k → gi zs j ≤ b) → mxT zs k ≤ b
  | 0, _ => hb
  | k + 1, h => by
    unfold mxT
    have := mxT_le zs hb (k := k) fun j hj => h j (by omega)
    have := h k (by omega)
    omega
theorem mxT_lo (zs : List Int) : ∀ k : Nat, -1 ≤ mxT zs k
  | 0 => by unfold mxT; omega
  | k + 1 => by unfold mxT; have := mxT_lo zs k; omega
theorem mxT_one (zs : List Int) (h : 0 ≤ gi zs 0) : mxT zs 1 = gi zs 0 := by
  simp only [mxT]
  omega
theorem mxT_nm (same : Nat → Nat → Bool) (N : Nat) : mxT (nm same N).1 N + 1 = (nm same N).2 := by
  have hb := nm_bd same N
  have h1 : mxT (nm same N).1 N ≤ (nm same N).2 - 1 := mxT_le _ (by omega) fun j hj => by have := nm_val same N j hj; omega
  by_cases h0 : (nm same N).2 = 0
  · have := mxT_lo (nm same N).1 N
    omega
  · obtain ⟨j, hj, e⟩ := nm_onto same N ((nm same N).2 - 1) (by omega) (by omega)
    have := mxT_ge (nm same N).1 hj
    omega

theorem imax_if (x y : Int) : (if x < y then y else x) = max x y := by split <;> omega

theorem RdI.at0' {w : World} {B : Nat} {b off : Nat} {zs : List Int} (h : RdI w B (some ⟨b, off, none⟩) zs) {k : Nat} (hk : k < zs.length) : w.cell? ⟨b, off + k, none⟩ = some (I (gi zs k)) := by
  obtain ⟨b', off', e, _, c⟩ := h.at_ hk
  injection e with e
  injection e with e1 e2 _
  subst e1 e2
  exact c

theorem OwI.rdB {e : TypeId} {w : World} {B n c : Nat} {A : Option Addr} {zs : List Int} (h : OwI e w B (.slice A n c) zs) : RdI w w.heap.size A zs := by
  obtain ⟨A', c', e1, h⟩ := h.form
  injection e1 with e1
  subst e1
  exact h

theorem l03Number_any (A : Option Addr) (n c : Nat) (zs : List Int) (w : World) (hx : RdI w w.heap.size A zs) (hn : zs.length = n) (hb : n ≤ 300) (hz : ∀ j, j < n → 0 ≤ gi zs j ∧ gi zs j ≤ 300) :
    Calls Tryz.prog 151 #[.slice A n c] w fun e w' => e = .returned (I (mxT zs n + 1)) ∧ Below w.heap.size w w' := by
  have Hx := Lib.hid hx
  have Hn := Lib.hid hn
  have Hz := Lib.hid hz
  clear hx hn hz
  go_enter Tryz.func151, Tryz.ntmps151
  go_wp2_with fail
  go_loopw [3, 4] (fun v i wr => ∃ k : Nat, v = I (mxT zs k) ∧ i = .int .i64 k ∧ k ≤ n ∧ Below w.heap.size w wr) (fun _ i _ => n - (intOf i).toNat)
  case atStart => exact ⟨0, rfl, rfl, by omega, Below.refl _ _⟩
  case round =>
    obtain ⟨k, rfl, rfl, hk, hbel⟩ := hrel
    have Hb := Lib.hid hbel
    have h1 := mxT_lo zs k
    have h2 : mxT zs k ≤ 300 := mxT_le _ (by omega) fun j hj => (Hz.out j (by omega)).2
    clear hbel
    by_cases hlt : k < n
    · have hltz : (k : Int) < (n : Int) := by omega
      obtain ⟨b, off, rfl, hbb, c1⟩ := RdI.at_ (Hx.out.below Hb.out) (k := k) (by rw [Hn.out]; exact hlt)
      have hv := Hz.out k hlt
      have hm : mxT zs (k + 1) = max (mxT zs k) (gi zs k) := rfl
      obtain ⟨x, hx⟩ : ∃ x, x = mxT zs k := ⟨_, rfl⟩
      obtain ⟨y, hy⟩ : ∃ y, y = gi zs k := ⟨_, rfl⟩
      rw [← hy] at c1 hm
      rw [← hx] at hm ⊢
      have Hm := Lib.hid hm
      clear hx hy h1 h2 hv hm
      go_wp2_with fail
      refine ⟨⟨k + 1, by rw [Hm.out, imax_if], by go_num, by omega, Hb.out⟩, by simp [intOf]; omega⟩
    · obtain rfl : k = n := by omega
      have hltz : ¬ ((k : Int) < (k : Int)) := by omega
      have hw : IntKind.i64.wrap (mxT zs k + 1) = mxT zs k + 1 := IntWalk.i64_in _ ⟨by omega, by omega⟩
      go_wp2_with fail
      go_ret
      exact ⟨rfl, Hb.out⟩

theorem slMax_any (A : Option Addr) (n c : Nat) (zs : List Int) (w : World) (hx : RdI w w.heap.size A zs) (hn : zs.length = n) (hp : 0 < n) (hb : n ≤ 300) (hz : ∀ j, j < n → 0 ≤ gi zs j ∧ gi zs j ≤ 300) :
    Calls Tryz.prog 172 #[.slice A n c] w fun e w' => e = .returned (I (mxT zs n)) ∧ Below w.heap.size w w' := by
  obtain ⟨b, off, rfl, hbb, c0⟩ := RdI.at_ hx (k := 0) (by omega)
  have h1 := mxT_one zs (hz 0 hp).1
  rw [← h1] at c0
  simp only [Nat.add_zero] at c0
  have Hx := Lib.hid hx
  have Hn := Lib.hid hn
  have Hz := Lib.hid hz
  have hpz : ¬ ((n : Int) < 1) := by omega
  have hpz2 : (0 : Int) < (n : Int) := by omega
  clear hx hn hz h1
  go_enter Tryz.func172, Tryz.ntmps172
  go_wp2_with fail
  go_loopw [3, 4] (fun v i wr => ∃ k : Nat, v = I (mxT zs k) ∧ i = .int .i64 k ∧ 0 < k ∧ k ≤ n ∧ Below w.heap.size w wr) (fun _ i _ => n - (intOf i).toNat)
  case atStart => exact ⟨1, rfl, rfl, by omega, by omega, Below.refl _ _⟩
  case round =>
    clear c0
    obtain ⟨k, rfl, rfl, hk0, hk, hbel⟩ := hrel
    have Hb := Lib.hid hbel
    clear hbel
    by_cases hlt : k < n
    · have hltz : (k : Int) < (n : Int) := by omega
      have c1 := RdI.at0' (Hx.out.below Hb.out) (k := k) (by rw [Hn.out]; exact hlt)
      have hm : mxT zs (k + 1) = max (mxT zs k) (gi zs k) := rfl
      obtain ⟨x, hx⟩ : ∃ x, x = mxT zs k := ⟨_, rfl⟩
      obtain ⟨y, hy⟩ : ∃ y, y = gi zs k := ⟨_, rfl⟩
      rw [← hy] at c1 hm
      rw [← hx] at hm ⊢
      have Hm := Lib.hid hm
      clear hx hy hm
      go_wp2_with fail
      refine ⟨⟨k + 1, by rw [Hm.out, imax_if], by go_num, by omega, by omega, Hb.out⟩, by simp [intOf]; omega⟩
    · obtain rfl : k = n := by omega
      have hltz : ¬ ((k : Int) < (k : Int)) := by omega
      go_wp2_with fail
      go_ret
      exact ⟨rfl, Hb.out⟩

theorem many_any (A : Option Addr) (n c : Nat) (zs : List Int) (w : World) (hx : RdI w w.heap.size A zs) (hn : zs.length = n) (hp : 0 < n) (hb : n ≤ 300) (hz : ∀ j, j < n → 0 ≤ gi zs j ∧ gi zs j ≤ 300) :
    Calls Tryz.prog 148 #[.slice A n c] w fun e w' => e = .returned (I (mxT zs n + 1)) ∧ Below w.heap.size w w' := by
  have Hx := Lib.hid hx
  have Hn := Lib.hid hn
  have Hz := Lib.hid hz
  have h1 := mxT_lo zs n
  have h2 : mxT zs n ≤ 300 := mxT_le _ (by omega) fun j hj => (hz j hj).2
  have hw : IntKind.i64.wrap (mxT zs n + 1) = mxT zs n + 1 := IntWalk.i64_in _ ⟨by omega, by omega⟩
  clear hx hn hz h1 h2
  go_enter Tryz.func148, Tryz.ntmps148
  go_wp2_with fail
  refine (slMax_any A n c zs w Hx.out Hn.out hp hb Hz.out).mono ?_
  rintro e w1 ⟨rfl, hb1⟩
  have Hb := Lib.hid hb1
  clear hb1
  go_wp2
  go_ret
  exact ⟨rfl, Hb.out⟩

theorem isKind_any (k : Int) (w : World) : Calls Tryz.prog 154 #[I k] w fun e w' => e = .returned (.bool (inR k 0 3)) ∧ Below w.heap.size w w' := by
  go_enter Tryz.func154, Tryz.ntmps154
  go_wp2_with fail
  refine (within_any k 0 3 w).mono ?_
  rintro e w1 ⟨rfl, rfl⟩
  go_wp2
  go_ret
  exact ⟨rfl, Below.refl _ _⟩
end Go.Proofs.YtkbfocoaobiijaaGreat
