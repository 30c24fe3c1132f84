/- Contract of the program's numbering of classes by a predicate of two places; at most 300 places. -/
import Derived.Test.YtneonacdjmfaoaaI3
namespace Go.Proofs.Ytneonacdjmfaoaa
open Go.RowKit
set_option maxRecDepth 100000
set_option linter.unusedSimpArgs false
set_option linter.unusedVariables false

/-- a closure that computes a predicate of two places, in all later worlds -/
def PredC2 (fn : Nat) (caps : Array Value) (N : Nat) (p : Nat → Nat → Bool) (w : World) : Prop :=
  (∀ args w, (callFunc fn args).run Try.prog w = .ok (.enter fn args) w) ∧
  ∀ w', Below w.heap.size w w' → ∀ i k, i < N → k < N → Calls Try.prog fn (#[I i, I k] ++ caps) w' fun e w'' => e = .returned (.bool (p i k)) ∧ Below w'.heap.size w' w''
def nfill (same : Nat → Nat → Bool) (n i : Nat) : List Int := (nm same i).1 ++ List.replicate (n - i) 0
section
variable {same : Nat → Nat → Bool}
theorem nfill_length {n i : Nat} (h : i ≤ n) : (nfill same n i).length = n := by simp [nfill, nm_length]; omega
theorem nfill_zero (same : Nat → Nat → Bool) (n : Nat) : nfill same n 0 = List.replicate n 0 := by simp [nfill, nm]
theorem nfill_all (same : Nat → Nat → Bool) (n : Nat) : nfill same n n = (nm same n).1 := by simp [nfill]
theorem gi_nfill {n i j : Nat} (h : j < i) : gi (nfill same n i) j = gi (nm same i).1 j := by
  unfold gi nfill
  simp [List.getD, List.getElem?_append_left (show j < (nm same i).1.length by rw [nm_length]; exact h)]
theorem nfill_set {n i : Nat} {x : Int} (h : i < n) (hx : (nm same (i + 1)).1 = (nm same i).1 ++ [x]) : (nfill same n i).set i x = nfill same n (i + 1) := by
  have hl := nm_length same i
  unfold nfill
  rw [hx, List.set_append_right _ _ (by omega), hl, Nat.sub_self]
  obtain ⟨m, hm⟩ : ∃ m, n - i = m + 1 := ⟨n - i - 1, by omega⟩
  rw [hm, show n - (i + 1) = m by omega, List.replicate_succ]
  simp

end

set_option maxHeartbeats 1000000 in
theorem numb_any (fn : Nat) (caps : Array Value) (same : Nat → Nat → Bool) (n : Nat) (w : World) (hc : PredC2 fn caps n same w) (hn : n ≤ 300) :
    Calls Try.prog 96 #[.int .i64 n, .func (.func fn) #[] caps] w fun e w' => ∃ v, e = .returned v ∧ OwI 2 w' w.heap.size v (nm same n).1 ∧ Below w.heap.size w w' := by
  obtain ⟨i, hi, hz0, hz1, hz2⟩ := info_parts infoI
  obtain ⟨eg, hc⟩ := hc
  have HC := Lib.hid hc
  clear hc
  go_enter Try.func96, Try.ntmps96
  go_wp2_with (at_make; refine wpList_make_full _ rfl _ _ _ rfl w.heap.size 2 i (.int .i64 0) 1 Try.underlying24 hi hz0 hz1 .i64 .i64 _ _ n rfl rfl rfl rfl (by rw [hz2]; omega) (by unfold maxLen; omega) (Nat.le_refl _) ?_; intro w1 hown hgr)
  have ho := madeI hown
  rw [← nfill_zero same] at ho
  have hbel : Below w.heap.size w w1 := (Below.refl _ _).grown hgr (Nat.le_refl _) (fun k hk => by cases hk)
  clear hown hgr
  go_loopw [6, 12] (fun nx i wr => ∃ j : Nat, j ≤ n ∧ i = .int .i64 j ∧ nx = I (nm same j).2 ∧ OwI 2 wr w.heap.size (.slice (some ⟨w.heap.size, 0, none⟩) n n) (nfill same n j) ∧ Below w.heap.size w wr) (fun _ i _ => n - (intOf i).toNat)
  case atStart => exact ⟨0, by omega, rfl, rfl, ho, hbel⟩
  case round =>
    clear ho hbel
    obtain ⟨j, hj, rfl, rfl, ho, hbel⟩ := hrel
    by_cases hlt : j < n
    · have hl := hbel.size
      have Hl := nm_length same j
      go_wp2_with fail
      go_loopw [8] (fun k wq => ∃ m : Nat, m ≤ j ∧ k = .int .i64 m ∧ Hid (∀ t, t < m → same t j = false) ∧ Hid (Below wr.heap.size wr wq)) (fun k _ => j - (intOf k).toNat)
      case atStart => exact ⟨0, by omega, rfl, fun t ht => absurd ht (by omega), Below.refl _ _⟩
      case round =>
        obtain ⟨m, hm, rfl, hg, Hb⟩ := hrel
        have hoq := ho.below Hb.out (Nat.le_refl _)
        have hbq := hbel.trans (Hb.out.mono hl)
        by_cases hmj : m < j
        · by_cases he : same m j = true
          · have Hk : Hid (nm same (j + 1) = ((nm same j).1 ++ [gi (nm same j).1 m], (nm same j).2)) := nm_hit hmj he hg.out
            go_wp2_with fail
            refine (HC.out _ hbq m j (by omega) (by omega)).mono ?_
            rintro e w2 ⟨rfl, hb⟩
            rw [he]
            replace hoq := hoq.below hb (Nat.le_refl _)
            replace hbq := hbq.trans (hb.mono hbq.size)
            clear hb he
            obtain ⟨c1, _⟩ := OwI.spotAt hoq (k := m) (by rw [nfill_length hj]; omega)
            obtain ⟨c2, z2, hg2, _, hst2⟩ := OwI.spotAt hoq (k := j) (by rw [nfill_length hj]; omega)
            have hst3 := hst2 (gi (nm same j).1 m)
            rw [nfill_set hlt (by rw [Hk.out])] at hst3
            rw [gi_nfill hmj] at c1
            have Hst := Lib.hid hst3
            clear hst2 hst3
            go_wp2
            go_roundw
            case rel => exact ⟨j + 1, by omega, by go_num, by rw [Hk.out], Hst.out, hbq.setCell (Nat.le_refl _) _⟩
            case measure => simp [intOf]; omega
          · have Hg : Hid (∀ t, t < m + 1 → same t j = false) := by
              intro t ht
              by_cases e : t = m
              · subst e; simpa using he
              · exact hg.out t (by omega)
            go_wp2_with fail
            refine (HC.out _ hbq m j (by omega) (by omega)).mono ?_
            rintro e w2 ⟨rfl, hb⟩
            rw [Bool.not_eq_true] at he
            rw [he]
            have Hb2 := Lib.hid (Hb.out.trans (hb.mono Hb.out.size))
            clear hb he hoq hbq
            go_wp2
            go_roundw
            case rel => exact ⟨m + 1, by omega, by go_num, Hg.out, Hb2⟩
            case measure => simp [intOf]; omega
        · have hmj2 : m = j := by omega
          subst hmj2
          have Hk : Hid (nm same (m + 1) = ((nm same m).1 ++ [(nm same m).2], (nm same m).2 + 1)) := nm_new hg.out
          obtain ⟨b1, b2⟩ := nm_bd same m
          have hwr : IntKind.i64.wrap ((nm same m).2 + 1) = (nm same m).2 + 1 := IntWalk.i64_in _ ⟨by omega, by omega⟩
          obtain ⟨c2, z2, hg2, _, hst2⟩ := OwI.spotAt hoq (k := m) (by rw [nfill_length hj]; omega)
          have hst3 := hst2 (nm same m).2
          rw [nfill_set hlt (by rw [Hk.out])] at hst3
          have Hst := Lib.hid hst3
          clear hst2 hst3
          go_wp2
          go_roundw
          case rel => exact ⟨m + 1, by omega, by go_num, by rw [Hk.out], Hst.out, hbq.setCell (Nat.le_refl _) _⟩
          case measure => simp [intOf]; omega
    · obtain rfl : j = n := by omega
      rw [nfill_all] at ho
      go_wp2
      go_ret
      exact ⟨_, rfl, ho, hbel⟩

end Go.Proofs.Ytneonacdjmfaoaa
