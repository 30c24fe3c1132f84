/- Contracts of the tests on sets of points; no conditions beyond those that each theorem states. -/
import Derived.Test.YtkbfocoaobiijaaGreatC3
import Derived.Test.YtkbfocoaobiijaaGreatSl
import Derived.Deep.QuietTactic
import Derived.BigQuiet
import Derived.IntWalk
namespace Go.Proofs.YtkbfocoaobiijaaGreat
open Go.RowKit
set_option maxRecDepth 100000

def okAt (p : Int) (zs : List Int) (k : Nat) : Bool := inR (gi zs k) 0 (p - 1) && (decide (k = 0) || decide (gi zs (k - 1) < gi zs k))
/-- a list of different points, ascending -/
def isSetB (p : Int) (zs : List Int) : Bool := (List.range zs.length).all (okAt p zs)

theorem isSetB_false {p : Int} {zs : List Int} {k : Nat} (hk : k < zs.length) (h : okAt p zs k = false) : isSetB p zs = false := by
  unfold isSetB; rw [List.all_eq_false]; exact ⟨k, by simpa using hk, by simp [h]⟩
theorem isSetB_true {p : Int} {zs : List Int} (h : ∀ j, j < zs.length → okAt p zs j = true) : isSetB p zs = true := by
  simp only [isSetB, List.all_eq_true]; intro j hj; exact h j (by simpa using hj)
theorem isSetB_iff {p : Int} {zs : List Int} : isSetB p zs = true ↔ ∀ j, j < zs.length → okAt p zs j = true := by simp [isSetB]

theorem isSet_any (A : Option Addr) (n c : Nat) (p : Int) (zs : List Int) (w : World) (hx : RdI w w.heap.size A zs) (hn : zs.length = n) (hb : n < 1073741824) (h1 : 1 ≤ p) (h5 : p ≤ 5) :
    Calls Tryz.prog 236 #[.slice A n c, I p] w fun e w' => e = .returned (.bool (isSetB p zs)) ∧ w = w' := by
  have Hn := Lib.hid hn
  have Hx := Lib.hid hx
  have hwp : IntKind.i64.wrap (p - 1) = p - 1 := IntWalk.i64_in _ ⟨by omega, by omega⟩
  clear hn hx
  go_enter Tryz.func236, Tryz.ntmps236
  go_wp2
  go_loop [9] (fun i => ∃ k : Nat, k ≤ n ∧ i = .int .i64 k ∧ Hid (∀ j, j < k → okAt p zs j = true)) (fun i => n - (intOf i).toNat)
  case atStart => exact ⟨0, by omega, rfl, fun j hj => absurd hj (by omega)⟩
  case round =>
    obtain ⟨k, hk, rfl, hg⟩ := hrel
    by_cases hlt : k < n
    · obtain ⟨b, off, rfl, hbb, c1⟩ := Hx.out.at_ (k := k) (by rw [Hn.out]; exact hlt)
      cases hin : inR (gi zs k) 0 (p - 1)
      · have Hr : Hid (isSetB p zs = false) := isSetB_false (k := k) (by rw [Hn.out]; exact hlt) (by unfold okAt; rw [hin]; rfl)
        go_wp2_with (go_at_call 178; refine (within_any _ _ _ _).mono ?_; rintro e w' ⟨rfl, rfl⟩)
        go_ret
        exact ⟨ret_bool Hr.out.symm, rfl⟩
      · by_cases hk0 : k = 0
        · subst hk0
          have c0 : w.cell? ⟨b, off, none⟩ = some (I (gi zs 0)) := c1
          have Hs : Hid (∀ j, j < 0 + 1 → okAt p zs j = true) := by
            intro j hj
            obtain rfl : j = 0 := by omega
            unfold okAt; rw [hin]; rfl
          go_wp2_with (go_at_call 178; refine (within_any _ _ _ _).mono ?_; rintro e w' ⟨rfl, rfl⟩)
          go_round
          case rel => exact ⟨0 + 1, by omega, by go_num, Hs.out⟩
          case measure => simp [intOf]; omega
        · have hkp : (0 : Int) < (k : Int) := by omega
          have hwk : IntKind.i64.wrap ((k : Int) - 1) = ((k - 1 : Nat) : Int) := by rw [IntWalk.i64_in _ ⟨by omega, by omega⟩]; omega
          obtain ⟨b', off', he, _, c2⟩ := Hx.out.at_ (k := k - 1) (by rw [Hn.out]; omega)
          injection he with he
          injection he with e1 e2 _
          subst e1 e2
          have i0 : (0 : Int) ≤ ((k - 1 : Nat) : Int) := by omega
          have i1 : ((k - 1 : Nat) : Int) < (n : Int) := by omega
          by_cases hge : gi zs (k - 1) < gi zs k
          · have hd : decide (gi zs k ≤ gi zs (k - 1)) = false := decide_eq_false (by omega)
            have Hs : Hid (∀ j, j < k + 1 → okAt p zs j = true) := by
              intro j hj
              by_cases e : j = k
              · subst e; unfold okAt; rw [hin, decide_eq_true hge]; simp
              · exact hg.out j (by omega)
            have hge2 : ¬ gi zs k ≤ gi zs (k - 1) := by omega
            clear hge
            go_wp2_with (go_at_call 178; refine (within_any _ _ _ _).mono ?_; rintro e w' ⟨rfl, rfl⟩)
            go_round
            case rel => exact ⟨k + 1, by omega, by go_num, Hs.out⟩
            case measure => simp [intOf]; omega
          · have hd : decide (gi zs k ≤ gi zs (k - 1)) = true := decide_eq_true (by omega)
            have Hr : Hid (isSetB p zs = false) := isSetB_false (k := k) (by rw [Hn.out]; exact hlt) (by unfold okAt; rw [hin, decide_eq_false hge, decide_eq_false hk0]; rfl)
            have hge2 : gi zs k ≤ gi zs (k - 1) := by omega
            clear hge
            go_wp2_with (go_at_call 178; refine (within_any _ _ _ _).mono ?_; rintro e w' ⟨rfl, rfl⟩)
            go_ret
            exact ⟨ret_bool Hr.out.symm, rfl⟩
    · have Hr : Hid (isSetB p zs = true) := isSetB_true fun j hj => hg.out j (by have := Hn.out; omega)
      go_wp2
      go_ret
      exact ⟨ret_bool Hr.out.symm, rfl⟩

/-- the code of a map and a set -/
def codeSet (f : M) (zs : List Int) : Int := if isMap f then (if isSetB f.p zs then 0 else 2) else 1

theorem codeSet_bad {f : M} {zs : List Int} (h : isMap f = false) : codeSet f zs = 1 := by simp [codeSet, h]
theorem codeSet_no {f : M} {zs : List Int} (h : isMap f = true) (hs : isSetB f.p zs = false) : codeSet f zs = 2 := by simp [codeSet, h, hs]
theorem codeSet_yes {f : M} {zs : List Int} (h : isMap f = true) (hs : isSetB f.p zs = true) : codeSet f zs = 0 := by simp [codeSet, h, hs]
theorem codeSet_zero {f : M} {zs : List Int} : codeSet f zs = 0 ↔ isMap f = true ∧ isSetB f.p zs = true := by
  unfold codeSet
  cases isMap f <;> cases isSetB f.p zs <;> simp

theorem setCode_any (f : M) (A : Option Addr) (n c : Nat) (zs : List Int) (w : World) (hx : RdI w w.heap.size A zs) (hn : zs.length = n) (hb : n < 1073741824) :
    Calls Tryz.prog 183 #[.agg (mc f), .slice A n c] w fun e w' => e = .returned (I (codeSet f zs)) ∧ Below w.heap.size w w' := by
  have Hn := Lib.hid hn
  have Hx := Lib.hid hx
  clear hn hx
  cases h : isMap f
  · have Hr := Lib.hid (codeSet_bad (zs := zs) h)
    go_enter Tryz.func183, Tryz.ntmps183
    go_wp2_with fail
    refine (isMap_any _ _).mono ?_
    rintro e w1 ⟨rfl, hb1⟩
    rw [h]
    have hbel : Below w.heap.size w w1 := Below.trans (by (repeat (first | with_reducible assumption | with_reducible exact Below.refl _ _ | with_reducible refine Below.setCell ?_ (by first | omega | (simp <;> omega)) _ | with_reducible refine Below.alloc ?_ (by first | omega | (simp <;> omega)) _ | with_reducible refine Below.drew ?_ | with_reducible refine Below.drewN ?_ _))) (hb1.mono (by simp <;> omega))
    clear hb1
    go_wp2
    go_ret
    exact ⟨ret_int Hr.out.symm, hbel⟩
  · have hv := (isMap_iff f).1 h
    have hp1 := hv.p1
    have hp5 := hv.p5
    cases hs : isSetB f.p zs
    all_goals
      first
        | have Hr := Lib.hid (codeSet_no h hs)
        | have Hr := Lib.hid (codeSet_yes h hs)
      go_enter Tryz.func183, Tryz.ntmps183
      go_wp2_with fail
      refine (isMap_any _ _).mono ?_
      rintro e w1 ⟨rfl, hb1⟩
      rw [h]
      have hsx : Six w1 w.heap.size f := Six.below (Blk.six (Blk.new w _ _)) hb1 (by simp)
      have hbel : Below w.heap.size w w1 := Below.trans (by (repeat (first | with_reducible assumption | with_reducible exact Below.refl _ _ | with_reducible refine Below.setCell ?_ (by first | omega | (simp <;> omega)) _ | with_reducible refine Below.alloc ?_ (by first | omega | (simp <;> omega)) _ | with_reducible refine Below.drew ?_ | with_reducible refine Below.drewN ?_ _))) (hb1.mono (by simp <;> omega))
      clear hb1
      go_wp2_with fail
      refine (isSet_any A n c f.p zs _ (Rd.more (Hx.out.below hbel) hbel.size) Hn.out hb hp1 hp5).mono ?_
      rintro e w2 ⟨rfl, rfl⟩
      rw [hs]
      go_wp2
      go_ret
      exact ⟨ret_int Hr.out.symm, hbel⟩

theorem l01In_q {n l h : Int} {b : Bool} (hv : inR n l h = b) (w : World) (m : Nat) :
    Calls Tryz.prog 141 #[.int .i64 n, .int .i64 l, .int .i64 h] (w.drewN m) fun e w'' => e = .returned (.bool b) ∧ ∃ k, w'' = w.drewN k :=
  (l01In_any n l h _).mono fun _ _ hh => ⟨by rw [hh.1, hv], m, hh.2.symm⟩

theorem l01Set_any (f : M) (A : Option Addr) (n c : Nat) (zs : List Int) (w : World) (hx : RdI w w.heap.size A zs) (hn : zs.length = n) (hb : n < 1073741824) :
    Calls Tryz.prog 185 #[.agg (mc f), .slice A n c] w fun e w' => e = .returned (I (codeSet f zs)) ∧ Below w.heap.size w w' := by
  have Hn := Lib.hid hn
  have Hx := Lib.hid hx
  clear hn hx
  cases h : isMap f
  · have Hr := Lib.hid (codeSet_bad (zs := zs) h)
    go_enter Tryz.func185, Tryz.ntmps185
    go_wp2_with fail
    refine (l01Is_any _ _).mono ?_
    rintro e w1 ⟨rfl, hb1⟩
    rw [h]
    have hbel : Below w.heap.size w w1 := Below.trans (by (repeat (first | with_reducible assumption | with_reducible exact Below.refl _ _ | with_reducible refine Below.setCell ?_ (by first | omega | (simp <;> omega)) _ | with_reducible refine Below.alloc ?_ (by first | omega | (simp <;> omega)) _ | with_reducible refine Below.drew ?_ | with_reducible refine Below.drewN ?_ _))) (hb1.mono (by simp <;> omega))
    clear hb1
    go_wp2
    go_ret
    exact ⟨ret_int Hr.out.symm, hbel⟩
  · have hv := (isMap_iff f).1 h
    have hp1 := hv.p1
    have hp5 := hv.p5
    have hwp : IntKind.i64.wrap (f.p - 1) = f.p - 1 := IntWalk.i64_in _ ⟨by omega, by omega⟩
    go_enter Tryz.func185, Tryz.ntmps185
    go_wp2_with fail
    refine (l01Is_any _ _).mono ?_
    rintro e w1 ⟨rfl, hb1⟩
    rw [h]
    have hsx : Six w1 w.heap.size f := Six.below (Blk.six (Blk.new w _ _)) hb1 (by simp)
    have hbel : Below w.heap.size w w1 := Below.trans (by (repeat (first | with_reducible assumption | with_reducible exact Below.refl _ _ | with_reducible refine Below.setCell ?_ (by first | omega | (simp <;> omega)) _ | with_reducible refine Below.alloc ?_ (by first | omega | (simp <;> omega)) _ | with_reducible refine Below.drew ?_ | with_reducible refine Below.drewN ?_ _))) (hb1.mono (by simp <;> omega))
    clear hb1
    go_wp2_with fail
    go_loopw [5] (fun i wr => ∃ k : Nat, k ≤ n ∧ i = .int .i64 k ∧ Hid (∀ j, j < k → okAt f.p zs j = true) ∧ Six wr w.heap.size f ∧ Below w.heap.size w wr) (fun i _ => n - (intOf i).toNat)
    case atStart => exact ⟨0, by omega, rfl, fun j hj => absurd hj (by omega), hsx, hbel⟩
    case round =>
      clear hsx hbel
      obtain ⟨k, hk, rfl, hg, hsx, hbel⟩ := hrel
      by_cases hlt : k < n
      · obtain ⟨b, off, rfl, hbb, c1⟩ := RdI.at_ (Hx.out.below hbel) (k := k) (by rw [Hn.out]; exact hlt)
        have i2 : (0 : Int) ≤ (k : Int) := by omega
        have i3 : (k : Int) < (n : Int) := by omega
        cases hin : inR (gi zs k) 0 (f.p - 1)
        · have Hr : Hid (codeSet f zs = 2) := codeSet_no h (isSetB_false (k := k) (by rw [Hn.out]; exact hlt) (by unfold okAt; rw [hin]; rfl))
          go_wp2_with fail
          go_quiet ((go_at_call 141; exact l01In_q hin _ _))
          go_wp2
          go_ret
          exact ⟨ret_int Hr.out.symm, hbel.drewN _⟩
        · by_cases hk0 : k = 0
          · subst hk0
            have c0 : wr.cell? ⟨b, off, none⟩ = some (I (gi zs 0)) := c1
            have Hs : Hid (∀ j, j < 0 + 1 → okAt f.p zs j = true) := by
              intro j hj
              obtain rfl : j = 0 := by omega
              unfold okAt; rw [hin]; rfl
            go_wp2_with fail
            go_quiet ((go_at_call 141; exact l01In_q hin _ _))
            go_wp2
            go_roundw
            case rel => exact ⟨0 + 1, by omega, by go_num, Hs.out, hsx, hbel.drewN _⟩
            case measure => simp [intOf]; omega
          · have hkp : (0 : Int) < (k : Int) := by omega
            have hkd : decide ((0 : Int) < (k : Int)) = true := decide_eq_true hkp
            have hkn : 0 < k := by omega
            have hkd2 : decide (0 < k) = true := decide_eq_true hkn
            have hwk : IntKind.i64.wrap ((k : Int) - 1) = ((k - 1 : Nat) : Int) := by rw [IntWalk.i64_in _ ⟨by omega, by omega⟩]; omega
            obtain ⟨b', off', he, _, c2⟩ := RdI.at_ (Hx.out.below hbel) (k := k - 1) (by rw [Hn.out]; omega)
            injection he with he
            injection he with e1 e2 _
            subst e1 e2
            have i0 : (0 : Int) ≤ ((k - 1 : Nat) : Int) := by omega
            have i1 : ((k - 1 : Nat) : Int) < (n : Int) := by omega
            by_cases hge : gi zs (k - 1) < gi zs k
            · have hd : decide (gi zs k ≤ gi zs (k - 1)) = false := decide_eq_false (by omega)
              have Hs : Hid (∀ j, j < k + 1 → okAt f.p zs j = true) := by
                intro j hj
                by_cases e : j = k
                · subst e; unfold okAt; rw [hin, decide_eq_true hge]; simp
                · exact hg.out j (by omega)
              have hge2 : ¬ gi zs k ≤ gi zs (k - 1) := by omega
              clear hge
              go_wp2_with fail
              go_quiet ((go_at_call 141; exact l01In_q hin _ _))
              go_wp2
              go_roundw
              case rel => exact ⟨k + 1, by omega, by go_num, Hs.out, hsx, hbel.drewN _⟩
              case measure => simp [intOf]; omega
            · have hd : decide (gi zs k ≤ gi zs (k - 1)) = true := decide_eq_true (by omega)
              have Hr : Hid (codeSet f zs = 2) := codeSet_no h (isSetB_false (k := k) (by rw [Hn.out]; exact hlt) (by unfold okAt; rw [hin, decide_eq_false hge, decide_eq_false hk0]; rfl))
              have hge2 : gi zs k ≤ gi zs (k - 1) := by omega
              clear hge
              go_wp2_with fail
              go_quiet ((go_at_call 141; exact l01In_q hin _ _))
              go_wp2
              go_ret
              exact ⟨ret_int Hr.out.symm, hbel.drewN _⟩
      · have Hr : Hid (codeSet f zs = 0) := codeSet_yes h (isSetB_true fun j hj => hg.out j (by have := Hn.out; omega))
        go_wp2
        go_ret
        exact ⟨ret_int Hr.out.symm, hbel⟩

end Go.Proofs.YtkbfocoaobiijaaGreat
