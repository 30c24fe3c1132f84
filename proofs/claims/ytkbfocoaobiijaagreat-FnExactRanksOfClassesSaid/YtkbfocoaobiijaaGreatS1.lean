/- Contracts of the statements' own helpers on lists of numbers: equality, marks, copies; the lists are shorter than 2^30. -/
import Derived.Test.YtkbfocoaobiijaaGreatC2
import Derived.Test.YtkbfocoaobiijaaGreatSl
import Derived.WalkSpells
namespace Go.Proofs.YtkbfocoaobiijaaGreat
open Go.RowKit
set_option maxRecDepth 100000

theorem ext_gi {xs ys : List Int} (hl : xs.length = ys.length) (h : ∀ k, k < xs.length → gi xs k = gi ys k) : xs = ys := by
  refine List.ext_getElem hl fun k h1 h2 => ?_
  have := h k h1
  rwa [gi_eq h1, gi_eq h2] at this

theorem eqI_any (A C : Option Addr) (n c m d : Nat) (xs ys : List Int) (w : World) (hn : xs.length = n) (hm : ys.length = m) (hx : RdI w w.heap.size A xs) (hy : RdI w w.heap.size C ys) (hb : n < 1073741824) :
    Calls Tryz.prog 92 #[.slice A n c, .slice C m d] w fun e w' => e = .returned (.bool (decide (xs = ys))) ∧ Below w.heap.size w w' := by
  by_cases hnm : n = m
  · have hbe : ((n : Int) != (m : Int)) = false := by simp [hnm]
    have Hl : Hid (xs.length = ys.length) := show _ = _ by omega
    have Hn := Lib.hid hn
    clear hn hm
    go_enter Tryz.func92, Tryz.ntmps92
    go_wp2
    go_loopw [5] (fun i wr => ∃ k : Nat, k ≤ n ∧ i = .int .i64 k ∧ Hid (∀ j, j < k → gi xs j = gi ys j) ∧ RdI wr w.heap.size A xs ∧ RdI wr w.heap.size C ys ∧ Below w.heap.size w wr) (fun i _ => n - (intOf i).toNat)
    case atStart => exact ⟨0, by omega, rfl, fun j hj => absurd hj (by omega), hx, hy, Below.refl _ _⟩
    case round =>
      clear hx hy
      obtain ⟨k, hk, rfl, hg, hx, hy, hbel⟩ := hrel
      by_cases hlt : k < n
      · obtain ⟨b, off, rfl, hbb, c1⟩ := hx.at_ (k := k) (by rw [Hn.out]; exact hlt)
        obtain ⟨b', off', rfl, hbb', c2⟩ := hy.at_ (k := k) (by rw [← Hl.out, Hn.out]; exact hlt)
        have Hx := Lib.hid hx
        have Hy := Lib.hid hy
        clear hx hy
        have h0 : (0 : Int) ≤ (k : Int) := by omega
        have h1 : (k : Int) < (n : Int) := by omega
        have h2 : (k : Int) < (m : Int) := by omega
        have h3 : k < m := by omega
        by_cases he : gi xs k = gi ys k
        · have heb : (gi xs k != gi ys k) = false := by simp [he]
          have Hs : Hid (∀ j, j < k + 1 → gi xs j = gi ys j) := by
            intro j hj; by_cases e : j = k
            · subst e; exact he
            · exact hg.out j (by omega)
          clear he
          go_wp2_with fail
          go_quiet (fail)
          go_wp2
          go_roundw
          case rel => exact ⟨k + 1, by omega, by go_num, Hs.out, Hx.out.drewN _, Hy.out.drewN _, hbel.drewN _⟩
          case measure => simp [intOf]; omega
        · have heb : (gi xs k != gi ys k) = true := by simp [he]
          have Hs : Hid (decide (xs = ys) = false) := by
            refine decide_eq_false fun e => he (by rw [e])
          clear he
          go_wp2_with fail
          go_quiet (fail)
          go_wp2
          go_ret
          exact ⟨ret_bool Hs.out.symm, hbel.drewN _⟩
      · have Hs : Hid (decide (xs = ys) = true) := by
          refine decide_eq_true (ext_gi Hl.out fun j hj => hg.out j ?_)
          have := Hn.out; omega
        go_wp2
        go_ret
        exact ⟨ret_bool Hs.out.symm, hbel⟩
  · have hbe : ((n : Int) != (m : Int)) = true := by simp; omega
    have Hs : Hid (decide (xs = ys) = false) := by
      refine decide_eq_false fun e => hnm ?_
      rw [← hn, ← hm, e]
    clear hn hm
    go_enter Tryz.func92, Tryz.ntmps92
    go_wp2
    go_ret
    exact ⟨ret_bool Hs.out.symm, Below.refl _ _⟩

/-- k, k+1, .. -/
def marks (n : Nat) (k : Int) : List Int := (List.range n).map fun (i : Nat) => k + i
theorem marks_length (n : Nat) (k : Int) : (marks n k).length = n := by simp [marks]
theorem gi_marks {n : Nat} {k : Int} {j : Nat} (hj : j < n) : gi (marks n k) j = k + j := by simp [gi, marks, List.getD, hj]
/-- the first j are marked -/
def markTo (zs : List Int) (k : Int) (j : Nat) : List Int := marks j k ++ zs.drop j
theorem markTo_zero (zs : List Int) (k : Int) : markTo zs k 0 = zs := by simp [markTo, marks]
theorem markTo_all (zs : List Int) (k : Int) : markTo zs k zs.length = marks zs.length k := by simp [markTo]
theorem markTo_length {zs : List Int} {k : Int} {j : Nat} (hj : j ≤ zs.length) : (markTo zs k j).length = zs.length := by simp [markTo, marks_length]; omega
theorem markTo_set {zs : List Int} {k : Int} {j : Nat} (hj : j < zs.length) : (markTo zs k j).set j (k + j) = markTo zs k (j + 1) := by
  unfold markTo
  rw [List.set_append_right _ _ (by rw [marks_length]; omega), marks_length, Nat.sub_self, List.drop_eq_getElem_cons hj, List.set_cons_zero]
  simp [marks, List.range_succ]

theorem markI_any (v : Value) (B : Nat) (zs : List Int) (k : Int) (w : World) (hown : OwI 2 w B v zs) (hk0 : 0 ≤ k) (hk : k + zs.length < 1152921504606846976) :
    Calls Tryz.prog 95 #[v, .int .i64 k] w fun e w' => e = .returned (.int .i64 (k + zs.length)) ∧ OwI 2 w' B v (marks zs.length k) ∧ w.grownBy w' v.ownBlock := by
  obtain ⟨A, c, rfl, _⟩ := hown.form
  go_enter Tryz.func95, Tryz.ntmps95
  go_wp2
  go_loopw [1, 5] (fun q i wr => ∃ j : Nat, j ≤ zs.length ∧ i = .int .i64 j ∧ q = .int .i64 (k + j) ∧ OwI 2 wr B (.slice A zs.length c) (markTo zs k j) ∧ w.grownBy wr (Value.slice A zs.length c).ownBlock) (fun _ i _ => zs.length - (intOf i).toNat)
  case atStart => exact ⟨0, by omega, rfl, by simp, by rw [markTo_zero]; exact hown, World.grownBy.refl w _⟩
  case round =>
    obtain ⟨j, hj, rfl, rfl, ho, hg⟩ := hrel
    by_cases hlt : j < zs.length
    · obtain ⟨g, c', he, hgB, hgl, c1, z1, hs⟩ := ho.spot (k := j) (by rw [markTo_length hj]; exact hlt)
      injection he with he1 _ he2
      subst he1 he2
      have Hs := Lib.hid hs
      clear hs
      go_wp2
      go_roundw
      case rel => exact ⟨j + 1, by omega, by go_num, by go_num, by have := Hs.out (k + j); rwa [markTo_set hlt] at this, grownBy_set hg⟩
      case measure => simp [intOf]; omega
    · obtain rfl : j = zs.length := by omega
      go_wp2
      go_ret
      exact ⟨rfl, by rw [← markTo_all]; exact ho, hg⟩

theorem heldI_any (A : Option Addr) (n c : Nat) (k : Int) (w : World) (hx : RdI w w.heap.size A (marks n k)) (hk0 : 0 ≤ k) (hk : k + n < 1152921504606846976) :
    Calls Tryz.prog 96 #[.slice A n c, .int .i64 k] w fun e w' => e = .returned (.int .i64 (k + n)) ∧ w = w' := by
  have Hx := Lib.hid hx
  clear hx
  go_enter Tryz.func96, Tryz.ntmps96
  go_wp2
  go_loop [1, 5] (fun q i => ∃ j : Nat, j ≤ n ∧ i = .int .i64 j ∧ q = .int .i64 (k + j)) (fun _ i => n - (intOf i).toNat)
  case atStart => exact ⟨0, by omega, rfl, by simp⟩
  case round =>
    obtain ⟨j, hj, rfl, rfl⟩ := hrel
    by_cases hlt : j < n
    · obtain ⟨b, off, rfl, hbb, c1⟩ := Hx.out.at_ (k := j) (by rw [marks_length]; exact hlt)
      rw [gi_marks hlt] at c1
      go_wp2
      go_round
      case rel => exact ⟨j + 1, by omega, by go_num, by go_num⟩
      case measure => simp [intOf]; omega
    · obtain rfl : j = n := by omega
      go_wp2
      go_ret
      exact ⟨rfl, rfl⟩

/-- the first j numbers of zs, then zeros -/
def copyTo (zs : List Int) (j : Nat) : List Int := zs.take j ++ List.replicate (zs.length - j) 0
theorem copyTo_zero (zs : List Int) : copyTo zs 0 = List.replicate zs.length 0 := by simp [copyTo]
theorem copyTo_all (zs : List Int) : copyTo zs zs.length = zs := by simp [copyTo]
theorem copyTo_length {zs : List Int} {j : Nat} (hj : j ≤ zs.length) : (copyTo zs j).length = zs.length := by simp [copyTo]; omega
theorem copyTo_set {zs : List Int} {j : Nat} (hj : j < zs.length) : (copyTo zs j).set j (gi zs j) = copyTo zs (j + 1) := by
  unfold copyTo
  have hl : (zs.take j).length = j := by simp; omega
  rw [List.set_append_right _ _ (by omega), hl, Nat.sub_self, gi_eq hj, List.take_succ_eq_append_getElem hj]
  have : zs.length - j = (zs.length - (j + 1)) + 1 := by omega
  rw [this, List.replicate_succ, List.set_cons_zero, List.append_assoc]
  rfl

theorem madeI {w : World} {B : Nat} {v : Value} {n : Nat} (h : w.ownsRow B 2 1 v n (madeCells (Value.int .i64 0).cells (n * 1)).toList) : OwI 2 w B v (List.replicate n 0) := by
  rw [Nat.mul_one, show (Value.int .i64 0).cells = #[.int .i64 0] from rfl, toList_madeCells_one] at h
  unfold OwI
  simpa [cI] using h

def eq5 (a b : M) : Bool := (List.range 5).all fun k => decide (a.at k = b.at k)
theorem eq5_true {a b : M} (h : ∀ k, k < 5 → a.at k = b.at k) : eq5 a b = true := by
  simp only [eq5, List.all_eq_true]; intro j hj; exact decide_eq_true (h j (by simpa using hj))
theorem eq5_false {a b : M} {k : Nat} (hk : k < 5) (h : ¬ a.at k = b.at k) : eq5 a b = false := by
  unfold eq5; rw [List.all_eq_false]; exact ⟨k, by simpa using hk, by simpa using h⟩
theorem eq5_iff {a b : M} : eq5 a b = true ↔ ∀ k, k < 5 → a.at k = b.at k := by
  simp [eq5]

theorem eqA5_any (a b : M) (w : World) :
    Calls Tryz.prog 245 #[.agg (mt a), .agg (mt b)] w fun e w' => e = .returned (.bool (eq5 a b)) ∧ Below w.heap.size w w' := by
  go_enter Tryz.func245, Tryz.ntmps245
  go_wp2
  go_loopw [5] (fun i wr => ∃ k : Nat, k ≤ 5 ∧ i = .int .i64 k ∧ Hid (∀ j, j < k → a.at j = b.at j) ∧ Blk wr w.heap.size 29 (mt a) ∧ Blk wr (w.heap.size + 1) 29 (mt b) ∧ Below w.heap.size w wr) (fun i _ => 5 - (intOf i).toNat)
  case atStart => exact ⟨0, by omega, rfl, fun j hj => absurd hj (by omega), (Blk.new _ _ _).alloc _, Blk.new' _ _ _ (by simp), by (repeat (first | with_reducible assumption | with_reducible exact Below.refl _ _ | with_reducible refine Below.setCell ?_ (by first | omega | (simp <;> omega)) _ | with_reducible refine Below.alloc ?_ (by first | omega | (simp <;> omega)) _ | with_reducible refine Below.drew ?_ | with_reducible refine Below.drewN ?_ _))⟩
  case round =>
    obtain ⟨k, hk, rfl, hg, hB1, hB2, hbel⟩ := hrel
    by_cases hlt : k < 5
    · have c1 := hB1.att_ hlt
      have c2 := hB2.att_ hlt
      have h0 : (0 : Int) ≤ (k : Int) := by omega
      have h1 : (k : Int) < 5 := by omega
      by_cases he : a.at k = b.at k
      · have heb : (a.at k != b.at k) = false := by simp [he]
        have Hs : Hid (∀ j, j < k + 1 → a.at j = b.at j) := by
          intro j hj; by_cases e : j = k
          · subst e; exact he
          · exact hg.out j (by omega)
        clear he
        go_wp2_with fail
        go_quiet (fail)
        go_wp2
        go_roundw
        case rel => exact ⟨k + 1, by omega, by go_num, Hs.out, hB1.drewN _, hB2.drewN _, hbel.drewN _⟩
        case measure => simp [intOf]; omega
      · have heb : (a.at k != b.at k) = true := by simp [he]
        have Hs : Hid (eq5 a b = false) := eq5_false hlt he
        clear he
        go_wp2_with fail
        go_quiet (fail)
        go_wp2
        go_ret
        exact ⟨ret_bool Hs.out.symm, hbel.drewN _⟩
    · have Hs : Hid (eq5 a b = true) := eq5_true fun j hj => hg.out j (by omega)
      go_wp2
      go_ret
      exact ⟨ret_bool Hs.out.symm, hbel⟩

theorem eqMap_any (a b : M) (w : World) :
    Calls Tryz.prog 202 #[.agg (mc a), .agg (mc b)] w fun e w' => e = .returned (.bool (decide (a = b))) ∧ Below w.heap.size w w' := by
  by_cases hp : a.p = b.p
  · have hpb : (a.p != b.p) = false := by simp [hp]
    have Hs : Hid (decide (a = b) = eq5 a b) := by
      show _ = _
      cases h : eq5 a b
      · refine decide_eq_false fun e => ?_
        rw [e] at h
        rw [eq5_true fun k _ => rfl] at h
        cases h
      · exact decide_eq_true (M.ext5 hp (eq5_iff.1 h))
    clear hp
    cases hq : eq5 a b
    all_goals
      go_enter Tryz.func202, Tryz.ntmps202
      go_wp2_with fail
      refine (eqA5_any _ _ _).mono ?_
      rintro e w1 ⟨rfl, hb⟩
      go_wp2
      go_ret
      exact ⟨by rw [Hs.out]; simp [*], Below.trans (by (repeat (first | with_reducible assumption | with_reducible exact Below.refl _ _ | with_reducible refine Below.setCell ?_ (by first | omega | (simp <;> omega)) _ | with_reducible refine Below.alloc ?_ (by first | omega | (simp <;> omega)) _ | with_reducible refine Below.drew ?_ | with_reducible refine Below.drewN ?_ _))) (hb.mono (by simp <;> omega))⟩
  · have hpb : (a.p != b.p) = true := by simp [hp]
    have Hs : Hid (decide (a = b) = false) := decide_eq_false fun e => hp (by rw [e])
    clear hp
    go_enter Tryz.func202, Tryz.ntmps202
    go_wp2
    go_ret
    exact ⟨ret_bool Hs.out.symm, by (repeat (first | with_reducible assumption | with_reducible exact Below.refl _ _ | with_reducible refine Below.setCell ?_ (by first | omega | (simp <;> omega)) _ | with_reducible refine Below.alloc ?_ (by first | omega | (simp <;> omega)) _ | with_reducible refine Below.drew ?_ | with_reducible refine Below.drewN ?_ _))⟩

theorem eqMap_self (a : M) (w : World) :
    Calls Tryz.prog 202 #[.agg (mc a), .agg (mc a)] w fun e w' => e = .returned (.bool true) ∧ Below w.heap.size w w' :=
  (eqMap_any a a w).mono fun _ _ h => ⟨h.1.trans (ret_bool (decide_eq_true rfl)), h.2⟩
theorem eqI_self (A C : Option Addr) (n c m d : Nat) (xs : List Int) (w : World) (hn : xs.length = n) (hm : xs.length = m) (hx : RdI w w.heap.size A xs) (hy : RdI w w.heap.size C xs) (hb : n < 1073741824) :
    Calls Tryz.prog 92 #[.slice A n c, .slice C m d] w fun e w' => e = .returned (.bool true) ∧ Below w.heap.size w w' :=
  (eqI_any A C n c m d xs xs w hn hm hx hy hb).mono fun _ _ h => ⟨h.1.trans (ret_bool (decide_eq_true rfl)), h.2⟩
end Go.Proofs.YtkbfocoaobiijaaGreat
