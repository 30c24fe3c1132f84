/- Contracts of the marks on lists of maps; no conditions beyond those that each theorem states. -/
import Derived.Test.YtknknljkmkfmoaaN14
namespace Go.Proofs.Ytknknljkmkfmoaa
open Go.RowKit
set_option maxRecDepth 100000
set_option linter.unusedSimpArgs false

def M.upd (m : M) (j : Nat) (z : Int) : M :=
  match j with
  | 0 => { m with p := z }
  | 1 => { m with t0 := z }
  | 2 => { m with t1 := z }
  | 3 => { m with t2 := z }
  | 4 => { m with t3 := z }
  | 5 => { m with t4 := z }
  | _ => m
theorem mcs_upd (j : Nat) (hj : j < 6) (z : Int) : ∀ {ms : List M} {k : Nat}, k < ms.length → mcs (ms.set k ((gm ms k).upd j z)) = (mcs ms).set (k * 6 + j) (I z)
  | [], _, h => by simp at h
  | m0 :: ms, 0, _ => by
    match j, hj with
    | 0, _ => rfl
    | 1, _ => rfl
    | 2, _ => rfl
    | 3, _ => rfl
    | 4, _ => rfl
    | 5, _ => rfl
  | m0 :: ms, k + 1, h => by
    have ih := mcs_upd j hj z (ms := ms) (k := k) (by simpa using h)
    rw [gm_cons_succ, List.set_cons_succ, mcs_cons, ih, mcs_cons]
    have e : (k + 1) * 6 + j = k * 6 + j + 6 := by omega
    rw [e]
    rfl
theorem OwM.put {e : TypeId} {w : World} {B g n c : Nat} {ms : List M} (h : OwM e w B (.slice (some ⟨g, 0, none⟩) n c) ms) {k j : Nat} (hk : k < ms.length) (hj : j < 6) (z : Int) : OwM e (w.setCell ⟨g, k * 6 + j, none⟩ (I z)) B (.slice (some ⟨g, 0, none⟩) n c) (ms.set k ((gm ms k).upd j z)) := by
  rcases h.2 with ⟨he, h0⟩ | ⟨g', cap, cur, he, hg, hh, hn, hm, hs, ht⟩
  · omega
  · injection he with e1 e2 e3
    injection e1 with e1
    injection e1 with e1 _
    subst e1 e3
    refine ⟨by rw [mcs_length], .inr ⟨g, c, cur.setIfInBounds (k * 6 + j) (I z), by rw [e2]; simp, hg, ?_, by simpa using hn, hm, by simpa using hs, ?_⟩⟩
    · simp [World.setCell, Array.getElem?_modify, hh]
    · rw [Array.toList_setIfInBounds, List.take_set, List.length_set, ht, mcs_upd j hj z hk]

theorem gm_set {ms : List M} {k : Nat} (hk : k < ms.length) (m : M) : gm (ms.set k m) k = m := by
  rw [gm_eq (by simpa using hk)]; simp
/-- the marks of one map -/
def mm (k : Int) : M := ⟨k, k + 1, k + 2, k + 3, k + 4, k + 5⟩
def marksM (n : Nat) (k : Int) : List M := (List.range n).map fun (i : Nat) => mm (k + 6 * i)
theorem marksM_length (n : Nat) (k : Int) : (marksM n k).length = n := by simp [marksM]
theorem gm_marksM {n : Nat} {k : Int} {j : Nat} (hj : j < n) : gm (marksM n k) j = mm (k + 6 * j) := by simp [gm, marksM, List.getD, hj]
def markMTo (ms : List M) (k : Int) (j : Nat) : List M := marksM j k ++ ms.drop j
theorem markMTo_zero (ms : List M) (k : Int) : markMTo ms k 0 = ms := by simp [markMTo, marksM]
theorem markMTo_all (ms : List M) (k : Int) : markMTo ms k ms.length = marksM ms.length k := by simp [markMTo]
theorem markMTo_length {ms : List M} {k : Int} {j : Nat} (hj : j ≤ ms.length) : (markMTo ms k j).length = ms.length := by simp [markMTo, marksM_length]; omega
theorem markMTo_gm {ms : List M} {k : Int} {j : Nat} (hj : j < ms.length) : gm (markMTo ms k j) j = gm ms j := by
  rw [gm_eq (by rw [markMTo_length (by omega)]; exact hj), gm_eq hj]
  unfold markMTo
  rw [List.getElem_append_right (by rw [marksM_length]; exact Nat.le_refl _)]
  simp [marksM_length]
theorem markMTo_set {ms : List M} {k : Int} {j : Nat} (hj : j < ms.length) : (markMTo ms k j).set j (mm (k + 6 * j)) = markMTo ms k (j + 1) := by
  unfold markMTo
  rw [List.set_append_right _ _ (by rw [marksM_length]; omega), marksM_length, Nat.sub_self, List.drop_eq_getElem_cons hj, List.set_cons_zero]
  simp [marksM, List.range_succ]
/-- one map whose point number and first j images are marked -/
def mkTo (k : Int) (old : M) (j : Nat) : M := part k (fun (l : Nat) => k + 1 + l) old.at j
theorem mkTo_zero (k : Int) (old : M) : mkTo k old 0 = old.upd 0 k := by
  unfold mkTo; rw [part_zero]; rfl
theorem mkTo_five (k : Int) (old : M) : mkTo k old 5 = mm k := by
  refine M.ext5 rfl fun j hj => ?_
  unfold mkTo
  rw [part_at _ _ _ hj, if_pos hj]
  match j, hj with
  | 0, _ => simp [mm, M.at]
  | 1, _ => simp [mm, M.at]; omega
  | 2, _ => simp [mm, M.at]; omega
  | 3, _ => simp [mm, M.at]; omega
  | 4, _ => simp [mm, M.at]; omega
theorem at_upd (m : M) {j l : Nat} (hj : j < 5) (hl : l < 5) (z : Int) : (m.upd (1 + j) z).at l = if l = j then z else m.at l := by
  match j, hj with
  | 0, _ => match l, hl with
    | 0, _ => rfl
    | 1, _ => rfl
    | 2, _ => rfl
    | 3, _ => rfl
    | 4, _ => rfl
  | 1, _ => match l, hl with
    | 0, _ => rfl
    | 1, _ => rfl
    | 2, _ => rfl
    | 3, _ => rfl
    | 4, _ => rfl
  | 2, _ => match l, hl with
    | 0, _ => rfl
    | 1, _ => rfl
    | 2, _ => rfl
    | 3, _ => rfl
    | 4, _ => rfl
  | 3, _ => match l, hl with
    | 0, _ => rfl
    | 1, _ => rfl
    | 2, _ => rfl
    | 3, _ => rfl
    | 4, _ => rfl
  | 4, _ => match l, hl with
    | 0, _ => rfl
    | 1, _ => rfl
    | 2, _ => rfl
    | 3, _ => rfl
    | 4, _ => rfl
theorem p_upd (m : M) {j : Nat} (hj : j < 5) (z : Int) : (m.upd (1 + j) z).p = m.p := by
  match j, hj with
  | 0, _ => rfl
  | 1, _ => rfl
  | 2, _ => rfl
  | 3, _ => rfl
  | 4, _ => rfl
theorem mkTo_succ (k : Int) (old : M) {j : Nat} (hj : j < 5) : (mkTo k old j).upd (1 + j) (k + 1 + j) = mkTo k old (j + 1) := by
  refine M.ext5 (by rw [p_upd _ hj]; rfl) fun l hl => ?_
  rw [at_upd _ hj hl]
  unfold mkTo
  rw [part_at _ _ _ hl, part_at _ _ _ hl]
  by_cases e : l = j
  · subst e; rw [if_pos rfl, if_pos (by omega)]
  · rw [if_neg e]
    by_cases h : l < j
    · rw [if_pos h, if_pos (by omega)]
    · rw [if_neg h, if_neg (by omega)]

theorem markM_any (v : Value) (B : Nat) (ms : List M) (k : Int) (w : World) (hown : OwM 31 w B v ms) (hk0 : 0 ≤ k) (hk : k + 6 * ms.length < 1152921504606846976) :
    Calls Try.prog 37 #[v, .int .i64 k] w fun e w' => e = .returned (.int .i64 (k + 6 * ms.length)) ∧ OwM 31 w' B v (marksM ms.length k) ∧ w.grownBy w' v.ownBlock := by
  obtain ⟨A, c, rfl, _⟩ := hown.form
  have Hown := Lib.hid hown
  clear hown
  go_enter Try.func37, Try.ntmps37
  go_wp2
  go_loopw [1, 5] (fun q i wr => ∃ r : Nat, r ≤ ms.length ∧ i = .int .i64 r ∧ q = .int .i64 (k + 6 * r) ∧ OwM 31 wr B (.slice A ms.length c) (markMTo ms k r) ∧ w.grownBy wr (Value.slice A ms.length c).ownBlock) (fun _ i _ => ms.length - (intOf i).toNat)
  case atStart => exact ⟨0, by omega, rfl, by simp, by rw [markMTo_zero]; exact Hown.out, World.grownBy.refl w _⟩
  case round =>
    obtain ⟨r, hr, rfl, rfl, ho, hg⟩ := hrel
    by_cases hlt : r < ms.length
    · obtain ⟨g, c', he⟩ := ho.some_ (by rw [markMTo_length hr]; omega)
      rw [markMTo_length hr] at he
      injection he with he1 _ he2
      subst he1 he2
      obtain ⟨_, _, h6, hfr, _⟩ := ho.spotAt (k := r) (by rw [markMTo_length hr]; exact hlt)
      have z0 := hfr (r * 6)
      have c0 := h6.1
      have hri : (r : Int) < (ms.length : Int) := by omega
      have Ho := Lib.hid ho
      have Hg := Lib.hid hg
      clear ho hg h6 hfr
      obtain ⟨K, hK⟩ : ∃ K, K = k + 6 * (r : Int) := ⟨_, rfl⟩
      have hK0 : 0 ≤ K := by omega
      have hK1 : K < 1152921504606846976 - 6 := by omega
      rw [← hK]
      have HK := Lib.hid hK
      clear hK
      go_wp2
      go_loopw [1, 6] (fun q i wr => ∃ j : Nat, j ≤ 5 ∧ i = .int .i64 j ∧ q = .int .i64 (K + 1 + j) ∧ OwM 31 wr B (.slice (some ⟨g, 0, none⟩) ms.length c) ((markMTo ms k r).set r (mkTo K (gm ms r) j)) ∧ w.grownBy wr (Value.slice (some ⟨g, 0, none⟩) ms.length c).ownBlock) (fun _ i _ => 5 - (intOf i).toNat)
      case atStart =>
        refine ⟨0, by omega, rfl, by simp, ?_, grownBy_set Hg.out⟩
        have h := Ho.out.put (k := r) (j := 0) (by rw [markMTo_length hr]; exact hlt) (by decide) K
        rw [markMTo_gm hlt, ← mkTo_zero] at h
        exact h
      case round =>
        clear Ho Hg c0 z0
        obtain ⟨j, hj, rfl, rfl, ho, hg⟩ := hrel
        have hln : ((markMTo ms k r).set r (mkTo K (gm ms r) j)).length = ms.length := by rw [List.length_set, markMTo_length hr]
        by_cases hlt5 : j < 5
        · obtain ⟨_, _, h6, hfr, _⟩ := ho.spotAt (k := r) (by rw [hln]; exact hlt)
          have z1 := hfr (r * 6 + 1 + j)
          have c1 : wr.cell? ⟨g, r * 6 + 1 + j, none⟩ = some (I ((mkTo K (gm ms r) j).at j)) := by
            rw [gm_set (by rw [markMTo_length hr]; exact hlt)] at h6
            obtain ⟨_, q0, q1, q2, q3, q4⟩ := h6
            match j, hlt5 with
            | 0, _ => exact q0
            | 1, _ => exact q1
            | 2, _ => exact q2
            | 3, _ => exact q3
            | 4, _ => exact q4
          have Ho := Lib.hid ho
          have Hg := Lib.hid hg
          clear ho hg h6 hfr hln
          go_wp2
          go_roundw
          case rel =>
            refine ⟨j + 1, by omega, by go_num, by go_num, ?_, grownBy_set Hg.out⟩
            have h := Ho.out.put (k := r) (j := 1 + j) (by rw [List.length_set, markMTo_length hr]; exact hlt) (by omega) (K + 1 + j)
            rw [gm_set (by rw [markMTo_length hr]; exact hlt), List.set_set, mkTo_succ _ _ hlt5, ← Nat.add_assoc] at h
            exact h
          case measure => simp [intOf]; omega
        · obtain rfl : j = 5 := by omega
          rw [mkTo_five, HK.out, markMTo_set hlt] at ho
          have Ho := Lib.hid ho
          have Hg := Lib.hid hg
          have HK2 : Hid (K + 1 + 5 = k + 6 * ((r : Int) + 1)) := by show _ = _; rw [HK.out]; omega
          clear ho hg hln
          go_wp2
          go_roundw
          case rel => exact ⟨r + 1, by omega, by go_num, by have := HK2.out; simp; omega, Ho.out, Hg.out⟩
          case measure => simp [intOf]; omega
    · obtain rfl : r = ms.length := by omega
      rw [markMTo_all] at ho
      have hri : ¬ ((ms.length : Int) < (ms.length : Int)) := by omega
      go_wp2
      go_ret
      exact ⟨rfl, ho, hg⟩

theorem heldM_any (A : Option Addr) (n c : Nat) (k : Int) (w : World) (hx : RdM w w.heap.size A (marksM n k)) (hk0 : 0 ≤ k) (hk : k + 6 * n < 1152921504606846976) :
    Calls Try.prog 38 #[.slice A n c, .int .i64 k] w fun e w' => e = .returned (.int .i64 (k + 6 * n)) ∧ w = w' := by
  have Hx := Lib.hid hx
  clear hx
  go_enter Try.func38, Try.ntmps38
  go_wp2
  go_loop [1, 5] (fun q i => ∃ r : Nat, r ≤ n ∧ i = .int .i64 r ∧ q = .int .i64 (k + 6 * r)) (fun _ i => n - (intOf i).toNat)
  case atStart => exact ⟨0, by omega, rfl, by simp⟩
  case round =>
    obtain ⟨r, hr, rfl, rfl⟩ := hrel
    by_cases hlt : r < n
    · obtain ⟨b, off, rfl, hb, h6⟩ := RdM.at_ Hx.out (k := r) (by rw [marksM_length]; exact hlt)
      rw [gm_marksM hlt] at h6
      obtain ⟨K, hK⟩ : ∃ K, K = k + 6 * (r : Int) := ⟨_, rfl⟩
      have hK0 : 0 ≤ K := by omega
      have hK1 : K < 1152921504606846976 - 6 := by omega
      rw [← hK] at h6 ⊢
      have HK := Lib.hid hK
      have hri : (r : Int) < (n : Int) := by omega
      obtain ⟨q, q0, q1, q2, q3, q4⟩ := h6
      simp only [mm] at q q0 q1 q2 q3 q4
      have Hq : Hid (∀ j : Nat, j < 5 → w.cell? ⟨b, off + r * 6 + 1 + j, none⟩ = some (I (K + 1 + j))) := fun j hj => by
        match j, hj with
        | 0, _ => simpa using q0
        | 1, _ => have e : K + 1 + 1 = K + 2 := by omega
                  simpa [e] using q1
        | 2, _ => have e : K + 1 + 2 = K + 3 := by omega
                  simpa [e] using q2
        | 3, _ => have e : K + 1 + 3 = K + 4 := by omega
                  simpa [e] using q3
        | 4, _ => have e : K + 1 + 4 = K + 5 := by omega
                  simpa [e] using q4
      clear hK q0 q1 q2 q3 q4
      go_wp2
      go_loop [1, 6] (fun q i => ∃ j : Nat, j ≤ 5 ∧ i = .int .i64 j ∧ q = .int .i64 (K + 1 + j)) (fun _ i => 5 - (intOf i).toNat)
      case atStart => exact ⟨0, by omega, rfl, by simp⟩
      case round =>
        obtain ⟨j, hj, rfl, rfl⟩ := hrel
        by_cases hlt5 : j < 5
        · have c1 := Hq.out j hlt5
          go_wp2
          go_round
          case rel => exact ⟨j + 1, by omega, by go_num, by go_num⟩
          case measure => simp [intOf]; omega
        · obtain rfl : j = 5 := by omega
          have HK2 : Hid (K + 1 + 5 = k + 6 * ((r : Int) + 1)) := by show _ = _; rw [HK.out]; omega
          clear q
          go_wp2
          go_round
          case rel => exact ⟨r + 1, by omega, by go_num, by have := HK2.out; simp; omega⟩
          case measure => simp [intOf]; omega
    · obtain rfl : r = n := by omega
      have hri : ¬ ((r : Int) < (r : Int)) := by omega
      go_wp2
      go_ret
      exact ⟨rfl, rfl⟩
end Go.Proofs.Ytknknljkmkfmoaa
