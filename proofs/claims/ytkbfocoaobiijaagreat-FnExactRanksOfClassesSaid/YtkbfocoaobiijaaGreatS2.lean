/- Contracts of the statements' own helpers on lists of maps: sizes, copies, equality; the lists are shorter than 2^30. -/
import Derived.Test.YtkbfocoaobiijaaGreatS1
import Derived.Test.YtkbfocoaobiijaaGreatSlM
import Derived.Test.YtkbfocoaobiijaaGreatReg
namespace Go.Proofs.YtkbfocoaobiijaaGreat
open Go.RowKit
set_option maxRecDepth 100000

/-- a map's struct stored into block q from place o on -/
abbrev st6at (w : World) (q o : Nat) (m : M) : World := (((((w.setCell ⟨q, o, none⟩ (I m.p)).setCell ⟨q, o + 1, none⟩ (I m.t0)).setCell ⟨q, o + 2, none⟩ (I m.t1)).setCell ⟨q, o + 3, none⟩ (I m.t2)).setCell ⟨q, o + 4, none⟩ (I m.t3)).setCell ⟨q, o + 5, none⟩ (I m.t4)
theorem below_st6at {B q : Nat} {a w : World} (h : Below B a w) (hq : B ≤ q) (o : Nat) (m : M) : Below B a (st6at w q o m) :=
  (((((h.setCell (p := ⟨q, o, none⟩) hq _).setCell (p := ⟨q, o + 1, none⟩) hq _).setCell (p := ⟨q, o + 2, none⟩) hq _).setCell (p := ⟨q, o + 3, none⟩) hq _).setCell (p := ⟨q, o + 4, none⟩) hq _).setCell (p := ⟨q, o + 5, none⟩) hq _
theorem Rd.st6at {k n B : Nat} {w : World} {A : Option Addr} {cs : List Value} (h : Rd k w B A n cs) {q : Nat} (hB : B ≤ q) (o : Nat) (m : M) : Rd k (Go.Proofs.YtkbfocoaobiijaaGreat.st6at w q o m) B A n cs :=
  (((((h.setCell (p := ⟨q, o, none⟩) hB _).setCell (p := ⟨q, o + 1, none⟩) hB _).setCell (p := ⟨q, o + 2, none⟩) hB _).setCell (p := ⟨q, o + 3, none⟩) hB _).setCell (p := ⟨q, o + 4, none⟩) hB _).setCell (p := ⟨q, o + 5, none⟩) hB _
theorem set_six (x0 x1 x2 x3 x4 x5 : Value) (l : List Value) (i : Nat) (v : Value) : (x0 :: x1 :: x2 :: x3 :: x4 :: x5 :: l).set (i + 6) v = x0 :: x1 :: x2 :: x3 :: x4 :: x5 :: l.set i v := rfl
theorem mcs_set (m : M) : ∀ {ms : List M} {k : Nat}, k < ms.length → mcs (ms.set k m) = ((((((mcs ms).set (k * 6) (I m.p)).set (k * 6 + 1) (I m.t0)).set (k * 6 + 2) (I m.t1)).set (k * 6 + 3) (I m.t2)).set (k * 6 + 4) (I m.t3)).set (k * 6 + 5) (I m.t4)
  | [], _, h => by simp at h
  | m0 :: ms, 0, _ => by simp [mcs]
  | m0 :: ms, k + 1, h => by
    have ih := mcs_set m (ms := ms) (k := k) (by simpa using h)
    have e : ∀ j, (k + 1) * 6 + j = k * 6 + j + 6 := fun j => by omega
    have e0 : (k + 1) * 6 = k * 6 + 6 := by omega
    rw [List.set_cons_succ, mcs_cons, ih, mcs_cons, e0]
    simp only [Nat.add_right_comm (k * 6) 6]
    rfl
theorem OwM.spot {e : TypeId} {w : World} {B : Nat} {v : Value} {ms : List M} (h : OwM e w B v ms) {k : Nat} (hk : k < ms.length) : ∃ g c, v = .slice (some ⟨g, 0, none⟩) ms.length c ∧ B ≤ g ∧ g < w.heap.size ∧ SixAt w g (k * 6) (gm ms k) ∧ (∀ o, w.frozen? ⟨g, o, none⟩ = false) ∧
    ∀ m, OwM e (st6at w g (k * 6) m) B v (ms.set k m) := by
  obtain ⟨A, c, hv, hr⟩ := h.form
  rcases h.2 with ⟨_, h0⟩ | ⟨g, cap, cur, rfl, hg, hh, hn, hm, hs, ht⟩
  · omega
  · injection hv with hA _ _
    obtain ⟨b, off, e1, _, hsix⟩ := hr.at_ hk
    rw [← hA] at e1
    injection e1 with e1
    injection e1 with e1 e2 _
    subst e1 e2
    rw [Nat.zero_add] at hsix
    have hB : Blk w g e cur := hh
    refine ⟨g, cap, rfl, hg, hB.lt, hsix, hB.frozen, fun m => ⟨mcs_length _, .inr ⟨g, cap, _, by rw [List.length_set], hg, (((((hB.set_ _ _).set_ _ _).set_ _ _).set_ _ _).set_ _ _).set_ _ _, by simpa using hn, hm, by simpa using hs, ?_⟩⟩⟩
    simp only [Array.toList_setIfInBounds, List.take_set, List.length_set]
    rw [ht, mcs_set m hk]

theorem OwM.spotAt {e : TypeId} {w : World} {B g n c : Nat} {ms : List M} (h : OwM e w B (.slice (some ⟨g, 0, none⟩) n c) ms) {k : Nat} (hk : k < ms.length) : B ≤ g ∧ g < w.heap.size ∧ SixAt w g (k * 6) (gm ms k) ∧ (∀ o, w.frozen? ⟨g, o, none⟩ = false) ∧
    ∀ m, OwM e (st6at w g (k * 6) m) B (.slice (some ⟨g, 0, none⟩) n c) (ms.set k m) := by
  obtain ⟨g', c', he, hgB, hgl, h6, hfr, hs⟩ := h.spot hk
  injection he with he1 _ he2
  injection he1 with he1
  injection he1 with he1 _
  subst he1
  exact ⟨hgB, hgl, h6, hfr, hs⟩

theorem OwM.nilA {e : TypeId} {w : World} {B n c : Nat} {A : Option Addr} {ms : List M} (h : OwM e w B (.slice A n c) ms) : A = none → n = 0 ∧ c = 0 := by
  rintro rfl
  rcases h.2 with ⟨he, _⟩ | ⟨g, cap, cur, he, _⟩
  · injection he with _ h1 h2
    exact ⟨h1, h2⟩
  · injection he with h1 _ _
    cases h1

theorem mcs_zero : ∀ n, mcs (List.replicate n M0) = List.replicate (n * 6) (I 0)
  | 0 => rfl
  | n + 1 => by
    rw [List.replicate_succ, mcs_cons, mcs_zero n, Nat.succ_mul, Nat.add_comm (n * 6) 6, ← List.replicate_append_replicate]
    rfl
theorem made_six (n : Nat) : (madeCells (Value.agg (mc M0)).cells n).toList = List.replicate n (I 0) := by
  have hz : ∀ j, j < 6 → ((Value.agg (mc M0)).cells)[j]! = I 0 := by
    intro j hj
    match j, hj with
    | 0, _ => rfl
    | 1, _ => rfl
    | 2, _ => rfl
    | 3, _ => rfl
    | 4, _ => rfl
    | 5, _ => rfl
  refine List.ext_getElem (by simp [madeCells]) fun j h1 h2 => ?_
  rw [List.getElem_replicate]
  simp only [madeCells, Array.toList_map, List.getElem_map]
  exact hz _ (Nat.mod_lt _ (by decide))
theorem madeM {w : World} {B : Nat} {v : Value} {n : Nat} (h : w.ownsRow B 31 6 v n (madeCells (Value.agg (mc M0)).cells (n * 6)).toList) : OwM 31 w B v (List.replicate n M0) := by
  rw [made_six, ← mcs_zero] at h
  unfold OwM
  simpa using h

/-- the first j maps of ms, then zeros -/
def copyM (ms : List M) (j : Nat) : List M := ms.take j ++ List.replicate (ms.length - j) M0
theorem copyM_zero (ms : List M) : copyM ms 0 = List.replicate ms.length M0 := by simp [copyM]
theorem copyM_all (ms : List M) : copyM ms ms.length = ms := by simp [copyM]
theorem copyM_length {ms : List M} {j : Nat} (hj : j ≤ ms.length) : (copyM ms j).length = ms.length := by simp [copyM]; omega
theorem copyM_set {ms : List M} {j : Nat} (hj : j < ms.length) : (copyM ms j).set j (gm ms j) = copyM ms (j + 1) := by
  unfold copyM
  have hl : (ms.take j).length = j := by simp; omega
  rw [List.set_append_right _ _ (by omega), hl, Nat.sub_self, gm_eq hj, List.take_succ_eq_append_getElem hj]
  have : ms.length - j = (ms.length - (j + 1)) + 1 := by omega
  rw [this, List.replicate_succ, List.set_cons_zero, List.append_assoc]
  rfl

theorem szM_any (A : Option Addr) (n c : Nat) (l : Nat) (w : World) (hl : l ≤ 1048576) (hn : n ≤ 9223372036854775807) :
    Calls Tryz.prog 90 #[.slice A n c, .int .i64 l] w fun e w' => e = .returned (.int .i64 (if l < n then -1 else ((l - n : Nat) : Int))) ∧ w = w' := by
  by_cases h : l < n
  · have Hr : Hid ((if l < n then (-1 : Int) else ((l - n : Nat) : Int)) = -1) := if_pos h
    have hw : IntKind.i64.wrap ((l : Int) - (n : Int)) = (l : Int) - (n : Int) := IntWalk.i64_in _ ⟨by omega, by omega⟩
    go_enter Tryz.func90, Tryz.ntmps90
    go_wp2
    go_ret
    exact ⟨rfl, rfl⟩
  · have Hr : Hid ((if l < n then (-1 : Int) else ((l - n : Nat) : Int)) = (l : Int) - (n : Int)) := by show _ = _; rw [if_neg h]; omega
    have hw : IntKind.i64.wrap ((l : Int) - (n : Int)) = (l : Int) - (n : Int) := IntWalk.i64_in _ ⟨by omega, by omega⟩
    go_enter Tryz.func90, Tryz.ntmps90
    go_wp2
    go_ret
    exact ⟨ret_int (by omega), rfl⟩

theorem toM_any (A : Option Addr) (n c : Nat) (ms : List M) (w : World) (hx : RdM w w.heap.size A ms) (hn : ms.length = n) (hb : n < 1073741824) :
    Calls Tryz.prog 91 #[.slice A n c] w fun e w' => ∃ v, e = .returned v ∧ OwM 31 w' w.heap.size v ms ∧ Below w.heap.size w w' := by
  obtain ⟨i, hi, hz0, hz1, hz2⟩ := info_parts infoM
  subst hn
  go_enter Tryz.func91, Tryz.ntmps91
  go_wp2_with (at_make; refine wpList_make_full _ rfl _ _ _ rfl w.heap.size 31 i (.agg (mc M0)) 6 Tryz.underlying24 hi hz0 hz1 .i64 .i64 _ _ ms.length rfl rfl rfl rfl (by rw [hz2]; omega) (by unfold maxLen; omega) (Nat.le_refl _) ?_; intro w1 hown hgr)
  have ho := madeM hown
  rw [← copyM_zero] at ho
  have hbel : Below w.heap.size w w1 := (Below.refl _ _).grown hgr (Nat.le_refl _) (fun k hk => by cases hk)
  have hx1 := Rd.below hx hbel
  clear hown hgr hx
  go_loopw [4] (fun i wr => ∃ j : Nat, j ≤ ms.length ∧ i = .int .i64 j ∧ OwM 31 wr w.heap.size (.slice (some ⟨w.heap.size, 0, none⟩) ms.length ms.length) (copyM ms j) ∧ RdM wr w.heap.size A ms ∧ Below w.heap.size w wr) (fun i _ => ms.length - (intOf i).toNat)
  case atStart => exact ⟨0, by omega, rfl, ho, hx1, hbel⟩
  case round =>
    clear hx1 ho hbel
    obtain ⟨j, hj, rfl, ho, hx, hbel⟩ := hrel
    by_cases hlt : j < ms.length
    · obtain ⟨b, off, rfl, hbb, c0, c1, c2, c3, c4, c5⟩ := hx.at_ hlt
      have Hx := Lib.hid hx
      clear hx
      go_wp2_with fail
      refine (toMap_any (gm ms j) _).mono ?_
      rintro e w2 ⟨rfl, hb⟩
      have Hx2 := Lib.hid (Rd.below' Hx.out hb hbel.size)
      replace ho := ho.below hb (Nat.le_refl _)
      replace hbel := hbel.trans (hb.mono hbel.size)
      clear hb c0 c1 c2 c3 c4 c5 Hx
      obtain ⟨_, hgl, _, hfr, hs⟩ := ho.spotAt (k := j) (by rw [copyM_length hj]; exact hlt)
      have z0 := hfr (j * 6)
      have z1 := hfr (j * 6 + 1)
      have z2 := hfr (j * 6 + 2)
      have z3 := hfr (j * 6 + 3)
      have z4 := hfr (j * 6 + 4)
      have z5 := hfr (j * 6 + 5)
      have Hs := Lib.hid hs
      clear hs hfr
      go_wp2
      go_roundw
      case rel => exact ⟨j + 1, by omega, by go_num, by have := Hs.out (gm ms j); rwa [copyM_set hlt] at this, Rd.st6at Hx2.out (Nat.le_refl _) _ _, below_st6at hbel (Nat.le_refl _) _ _⟩
      case measure => simp [intOf]; omega
    · obtain rfl : j = ms.length := by omega
      rw [copyM_all] at ho
      go_wp2
      go_ret
      exact ⟨_, rfl, ho, hbel⟩

theorem eqM_same (A C : Option Addr) (n c d : Nat) (ms : List M) (w : World) (hn : ms.length = n) (hx : RdM w w.heap.size A ms) (hy : RdM w w.heap.size C ms) (hb : n < 1073741824) :
    Calls Tryz.prog 93 #[.slice A n c, .slice C n d] w fun e w' => e = .returned (.bool true) ∧ Below w.heap.size w w' := by
  have hbe : ((n : Int) != (n : Int)) = false := by simp
  have Hn := Lib.hid hn
  clear hn
  go_enter Tryz.func93, Tryz.ntmps93
  go_wp2
  go_loopw [5] (fun i wr => ∃ k : Nat, k ≤ n ∧ i = .int .i64 k ∧ RdM wr w.heap.size A ms ∧ RdM wr w.heap.size C ms ∧ Below w.heap.size w wr) (fun i _ => n - (intOf i).toNat)
  case atStart => exact ⟨0, by omega, rfl, hx, hy, Below.refl _ _⟩
  case round =>
    clear hx hy
    obtain ⟨k, hk, rfl, hx, hy, hbel⟩ := hrel
    by_cases hlt : k < n
    · obtain ⟨b, off, rfl, hbb, s1⟩ := hx.at_ (k := k) (by rw [Hn.out]; exact hlt)
      obtain ⟨b', off', rfl, hbb', s2⟩ := hy.at_ (k := k) (by rw [Hn.out]; exact hlt)
      have h0 : (0 : Int) ≤ (k : Int) := by omega
      have h1 : (k : Int) < (n : Int) := by omega
      have HS : Hid (SixAt wr.drew b (off + k * 6) (gm ms k) ∧ SixAt wr.drew b' (off' + k * 6) (gm ms k) ∧ RdM wr.drew w.heap.size (some ⟨b, off, none⟩) ms ∧ RdM wr.drew w.heap.size (some ⟨b', off', none⟩) ms ∧ Below w.heap.size w wr.drew) := ⟨s1, s2, hx, hy, hbel.drew⟩
      have hsz := hbel.size
      clear hx hy hbel s1 s2
      go_wp2_with fail
      refine wp_region_same [] rfl (by kernel_rfl) (by kernel_rfl) (by kernel_rfl) (fun w' => SixAt w' b (off + k * 6) (gm ms k) ∧ SixAt w' b' (off' + k * 6) (gm ms k) ∧ RdM w' w.heap.size (some ⟨b, off, none⟩) ms ∧ RdM w' w.heap.size (some ⟨b', off', none⟩) ms ∧ Below w.heap.size w w') _
        [.slice (some ⟨b, off, none⟩) n c, I k, .pointer (some ⟨b, off + k * 6, none⟩), .agg (mc (gm ms k)), .slice (some ⟨b', off', none⟩) n d, I k, .pointer (some ⟨b', off' + k * 6, none⟩), .agg (mc (gm ms k)), .bool true, .bool false]
        (by simp only [putAll, List.setIfInBounds_toArray, List.set_cons_succ, List.set_cons_zero]; rfl) HS.out ?hop ?hQ
      case hop =>
        refine FixBL.toL (fun w' w'' hS hb => ⟨hS.1.below hb hS.1.lt, hS.2.1.below hb hS.2.1.lt, Rd.below' hS.2.2.1 hb hS.2.2.2.2.size, Rd.below' hS.2.2.2.1 hb hS.2.2.2.2.size, hS.2.2.2.2.trans (hb.mono hS.2.2.2.2.size)⟩) _ _ ?_
        refine ⟨.inr ?_, .inr ?_, .inr ?_, .inr ?_, .inr ?_, .inr ?_, .inr ?_, .inr ?_, .inr ?_, .inr ?_, trivial⟩
        · (with_reducible refine FixB.of ?_ ?_; rfl; intro w' hS; have s0 := hS.1; have s1 := hS.2.1; clear hS; unfold Oper.wp; go_simp; first | done | exact Below.refl _ _)
        · (with_reducible refine FixB.of ?_ ?_; rfl; intro w' hS; have s0 := hS.1; have s1 := hS.2.1; clear hS; unfold Oper.wp; go_simp; first | done | exact Below.refl _ _)
        · (with_reducible refine FixB.of ?_ ?_; rfl; intro w' hS; have s0 := hS.1; have s1 := hS.2.1; clear hS; unfold Oper.wp; go_simp; first | done | exact Below.refl _ _)
        · (with_reducible refine FixB.of ?_ ?_; rfl; intro w' hS; have s0 := hS.1; have s1 := hS.2.1; clear hS; unfold Oper.wp; go_simp; first | done | exact Below.refl _ _)
        · (with_reducible refine FixB.of ?_ ?_; rfl; intro w' hS; have s0 := hS.1; have s1 := hS.2.1; clear hS; unfold Oper.wp; go_simp; first | done | exact Below.refl _ _)
        · (with_reducible refine FixB.of ?_ ?_; rfl; intro w' hS; have s0 := hS.1; have s1 := hS.2.1; clear hS; unfold Oper.wp; go_simp; first | done | exact Below.refl _ _)
        · (with_reducible refine FixB.of ?_ ?_; rfl; intro w' hS; have s0 := hS.1; have s1 := hS.2.1; clear hS; unfold Oper.wp; go_simp; first | done | exact Below.refl _ _)
        · (with_reducible refine FixB.of ?_ ?_; rfl; intro w' hS; have s0 := hS.1; have s1 := hS.2.1; clear hS; unfold Oper.wp; go_simp; first | done | exact Below.refl _ _)
        · (with_reducible refine FixB.of ?_ ?_; rfl; intro w' hS; have s3 := Lib.hid hS; unfold Oper.wp; clear hS; go_simp; refine (eqMap_self (gm ms k) _).mono ?_; rintro e w1 ⟨rfl, hb⟩; exact ⟨rfl, hb⟩)
        · (with_reducible refine FixB.of ?_ ?_; rfl; intro w' hS; have s0 := hS.1; have s1 := hS.2.1; clear hS; unfold Oper.wp; go_simp; first | done | exact Below.refl _ _)
      case hQ =>
        intro w' hS _
        clear HS
        obtain ⟨_, _, hx, hy, hbel⟩ := hS
        have Hx := Lib.hid hx
        have Hy := Lib.hid hy
        clear hx hy
        go_wp2
        go_roundw
        case rel => exact ⟨k + 1, by omega, by go_num, Hx.out, Hy.out, hbel⟩
        case measure => simp [intOf]; omega
    · go_wp2
      go_ret
      exact ⟨rfl, hbel⟩
end Go.Proofs.YtkbfocoaobiijaaGreat
