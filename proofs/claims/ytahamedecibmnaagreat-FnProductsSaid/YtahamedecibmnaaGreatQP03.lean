/- Powers of maps in plain words: they add up, and the sixtieth power is idempotent; the maps are valid as each theorem states. Contracts of sets of points as digits in base 2, and of the cyclic points; the maps are valid where the theorems say so. Contracts of the tests on sets of points; no conditions beyond those that each theorem states. The kit's own contracts of the library's functions at this translation, laid by the kit's tools; no conditions beyond those that each theorem states. Contracts of the library's functions on lists of numbers: less, index, contains; no conditions beyond those that each theorem states. Contracts of preimages; no conditions beyond those that each theorem states. Lists without repetitions, in plain words; no conditions. Contract of the function that strikes neighbours that are alike; the list is a row of the call's own. Contracts of images of sets and of ranks; the maps are valid where the theorems say so. Contracts of the images of sets; no conditions beyond those that each theorem states. Contracts of products of two maps; no conditions beyond those that each theorem states. Contracts of ranks, inverses and renumbered maps; the maps are valid where the theorems say so. Contracts of ranks, inverses and renumbered maps, with their codes; no conditions beyond those that each theorem states. -/
import Derived.Test.YtahamedecibmnaaGreatQP02
import Derived.Test.YtahamedecibmnaaGreatProg
import Derived.Laws.BitsLemmas
import Derived.Deep.QuietTactic
import Derived.BigQuiet
import Derived.IntWalk
import Derived.Shelf.Small.Bits
import Derived.Shelf.Strconv.Itoa0
import Derived.RegionTactic
import Derived.ChangeAlike
import Derived.Deep.RegionWith
set_option linter.unusedSimpArgs false
set_option linter.unusedVariables false
namespace Go.Proofs.YtahamedecibmnaaGreat
open Go.RowKit
set_option maxRecDepth 100000
theorem mul_p (f g : M) : (mul f g).p = f.p := rfl
theorem mul_assoc {f g h : M} (hf : Valid f) (_ : Valid g) (e : f.p = g.p) : mul (mul f g) h = mul f (mul g h) := by
  refine M.ext5 rfl fun k hk => ?_
  rw [at_mul (mul f g) h hk, at_mul f (mul g h) hk, mul_p]
  by_cases hp : (k : Int) < f.p
  · have h1 := hf.lo k hk hp; have h2 := hf.hi k hk hp; have h3 := hf.p5
    rw [if_pos hp, if_pos hp, at_mul f g hk, if_pos hp, at_mul g h (by omega), if_pos (by omega)]
  · rw [if_neg hp, if_neg hp]
theorem mul_one' {f : M} (hf : Valid f) : mul f (one f.p) = f := by
  refine M.ext5 rfl fun k hk => ?_
  rw [at_mul _ _ hk]
  by_cases hp : (k : Int) < f.p
  · have h1 := hf.lo k hk hp; have h2 := hf.hi k hk hp; have h3 := hf.p5
    rw [if_pos hp, at_one _ (by omega), if_pos (by omega)]; omega
  · rw [if_neg hp]; exact (hf.out k hk (by omega)).symm
theorem one_mul' {f : M} (hf : Valid f) : mul (one f.p) f = f := by
  refine M.ext5 rfl fun k hk => ?_
  rw [at_mul _ _ hk, p_one]
  by_cases hp : (k : Int) < f.p
  · rw [if_pos hp, at_one _ hk, if_pos hp, Int.toNat_natCast]
  · rw [if_neg hp]; exact (hf.out k hk (by omega)).symm
def go' (f : M) (k : Nat) : Nat → Nat
  | 0 => k
  | n + 1 => (f.at (go' f k n)).toNat
end Go.Proofs.YtahamedecibmnaaGreat

namespace Go.Proofs.YtahamedecibmnaaGreat
open Go.RowKit
set_option maxRecDepth 100000
theorem or_fin : ∀ (m : Fin 32) (a : Fin 5), bits .or .i64 ((m.val : Nat) : Int) (wrap64 (2 ^ a.val)) = ((m.val ||| 2 ^ a.val : Nat) : Int) ∧ m.val ||| 2 ^ a.val < 32 := by decide +kernel
theorem or_run {m a : Nat} (hm : m < 32) (ha : a < 5) : bits .or .i64 (m : Int) (wrap64 (2 ^ a)) = ((m ||| 2 ^ a : Nat) : Int) ∧ m ||| 2 ^ a < 32 := or_fin ⟨m, hm⟩ ⟨a, ha⟩
theorem and_fin : ∀ (m : Fin 32) (k : Fin 62), (bits .and .i64 (((m.val : Nat) : Int) / 2 ^ k.val) 1 == 1) = m.val.testBit k.val := by decide +kernel
theorem and_run {m k : Nat} (hm : m < 32) (hk : k < 62) : (bits .and .i64 ((m : Int) / 2 ^ k) 1 == 1) = m.testBit k := and_fin ⟨m, hm⟩ ⟨k, hk⟩
theorem bit_far {m k : Nat} (hm : m < 32) (hk : 5 ≤ k) : m.testBit k = false := Nat.testBit_lt_two_pow (Nat.lt_of_lt_of_le hm (Nat.pow_le_pow_right (show 0 < 2 by decide) hk))
theorem sel_ext {q q' : Int → Bool} : ∀ {n : Nat}, (∀ k : Nat, k < n → q k = q' k) → sel q n = sel q' n
  | 0, _ => rfl
  | n + 1, h => by rw [sel_succ, sel_succ, sel_ext fun k hk => h k (by omega), h n (by omega)]
theorem sel_far {q : Int → Bool} {n : Nat} : ∀ {N : Nat}, n ≤ N → (∀ k : Nat, n ≤ k → k < N → q k = false) → sel q N = sel q n
  | 0, h, _ => by obtain rfl : n = 0 := by omega
                  rfl
  | N + 1, h, hq => by
    by_cases e : n = N + 1
    · rw [e]
    · rw [sel_succ, hq N (by omega) (by omega), sel_far (by omega) fun k h1 h2 => hq k h1 (by omega)]
      simp
def bq (m : Nat) (z : Int) : Bool := m.testBit z.toNat
theorem bq_nat (m k : Nat) : bq m k = m.testBit k := rfl
def pts (m : Nat) : List Int := sel (bq m) 62
theorem l01Points_any (m : Nat) (w : World) (hm : m < 32) :
    Calls Tryz.prog 47 #[I m] w fun e w' => ∃ v, e = .returned v ∧ OwI 2 w' w.heap.size v (pts m) ∧ Below w.heap.size w w' := by
  go_enter Tryz.func47, Tryz.ntmps47
  go_wp2
  go_loopw [3, 4] (fun s i wr => ∃ k : Nat, k ≤ 62 ∧ OwI 2 wr w.heap.size s (sel (bq m) k) ∧ i = .int .i64 k ∧ Below w.heap.size w wr) (fun _ i _ => 62 - (intOf i).toNat)
  case atStart => exact ⟨0, by omega, OwI.made (Nat.le_refl _), rfl, by (repeat (first | with_reducible assumption | with_reducible exact Below.refl _ _ | with_reducible refine Below.setCell ?_ (by first | omega | (simp <;> omega)) _ | with_reducible refine Below.alloc ?_ (by first | omega | (simp <;> omega)) _ | with_reducible refine Below.drew ?_ | with_reducible refine Below.drewN ?_ _))⟩
  case round =>
    obtain ⟨k, hk, ho, rfl, hbel⟩ := hrel
    obtain ⟨A, c, hv', _⟩ := ho.form
    obtain ⟨n, hn⟩ : ∃ n, n = (sel (bq m) k).length := ⟨_, rfl⟩
    have hn2 : n ≤ k := by rw [hn]; exact sel_length _ _
    rw [← hn] at hv'
    subst hv'
    have Hn := Lib.hid hn
    have hsz := hbel.size
    clear hn
    by_cases hlt : k < 62
    · have ha := and_run (k := k) hm hlt
      have hss := sel_succ (bq m) k
      rw [← bq_nat] at ha
      cases hb : bq m k
      · rw [hb] at ha hss
        have Hss : Hid (sel (bq m) (k + 1) = sel (bq m) k) := by show _ = _; rw [hss]; simp
        clear hss hb
        go_wp2
        go_roundw
        case rel => exact ⟨k + 1, by omega, by rw [Hss.out]; exact ho, by go_num, hbel⟩
        case measure => simp [intOf]; omega
      · rw [hb] at ha hss
        have Hss : Hid (sel (bq m) (k + 1) = sel (bq m) k ++ [(k : Int)]) := by show _ = _; rw [hss]; simp
        clear hss hb
        go_wp2_with (at_builtin; refine wpList_pushI rfl (.tmp 16) (.tmp 18) rfl w.heap.size (.slice A n c) (sel (bq m) k) rfl (ho.alloc _) wr.heap.size 1 k rfl ((Blk.new _ _ _).cell 0) (by rw [← Hn.out]; omega) (by simp; omega) (wr.heap.size + 1) (by simp) ?_; intro g' cap w4 ho' hgr hg' hlt')
        go_roundw
        case rel => exact ⟨k + 1, by omega, by rw [Hss.out]; simpa [Hn.out] using ho', by go_num, (ho.alloc _).bel (hbel.alloc hsz _) hgr (by omega) (by simp; omega)⟩
        case measure => simp [intOf]; omega
    · obtain rfl : k = 62 := by omega
      go_wp2
      go_ret
      exact ⟨_, rfl, ho, hbel⟩
/-! ### cyclic points -/
def back (f : M) (k : Nat) : Nat → Bool
  | 0 => false
  | n + 1 => back f k n || decide (go' f k (n + 1) = k)
end Go.Proofs.YtahamedecibmnaaGreat

namespace Go.Proofs.YtahamedecibmnaaGreat
open Go.RowKit
set_option maxRecDepth 100000
def okAt (p : Int) (zs : List Int) (k : Nat) : Bool := inR (gi zs k) 0 (p - 1) && (decide (k = 0) || decide (gi zs (k - 1) < gi zs k))
def isSetB (p : Int) (zs : List Int) : Bool := (List.range zs.length).all (okAt p zs)
theorem isSetB_false {p : Int} {zs : List Int} {k : Nat} (hk : k < zs.length) (h : okAt p zs k = false) : isSetB p zs = false := by
  unfold isSetB; rw [List.all_eq_false]; exact ⟨k, by simpa using hk, by simp [h]⟩
theorem isSetB_true {p : Int} {zs : List Int} (h : ∀ j, j < zs.length → okAt p zs j = true) : isSetB p zs = true := by
  simp only [isSetB, List.all_eq_true]; intro j hj; exact h j (by simpa using hj)
theorem isSetB_iff {p : Int} {zs : List Int} : isSetB p zs = true ↔ ∀ j, j < zs.length → okAt p zs j = true := by simp [isSetB]
theorem isSet_any (A : Option Addr) (n c : Nat) (p : Int) (zs : List Int) (w : World) (hx : RdI w w.heap.size A zs) (hn : zs.length = n) (hb : n < 1073741824) (h1 : 1 ≤ p) (h5 : p ≤ 5) :
    Calls Tryz.prog 70 #[.slice A n c, I p] w fun e w' => e = .returned (.bool (isSetB p zs)) ∧ w = w' := by
  have Hn := Lib.hid hn
  have Hx := Lib.hid hx
  have hwp : IntKind.i64.wrap (p - 1) = p - 1 := IntWalk.i64_in _ ⟨by omega, by omega⟩
  clear hn hx
  go_enter Tryz.func70, Tryz.ntmps70
  go_wp2
  go_loop [9] (fun i => ∃ k : Nat, k ≤ n ∧ i = .int .i64 k ∧ Hid (∀ j, j < k → okAt p zs j = true)) (fun i => n - (intOf i).toNat)
  case atStart => exact ⟨0, by omega, rfl, fun j hj => absurd hj (by omega)⟩
  case round =>
    obtain ⟨k, hk, rfl, hg⟩ := hrel
    by_cases hlt : k < n
    · obtain ⟨b, off, rfl, hbb, c1⟩ := Hx.out.at_ (k := k) (by rw [Hn.out]; exact hlt)
      cases hin : inR (gi zs k) 0 (p - 1)
      · have Hr : Hid (isSetB p zs = false) := isSetB_false (k := k) (by rw [Hn.out]; exact hlt) (by unfold okAt; rw [hin]; rfl)
        go_wp2_with (go_at_call 38; refine (within_any _ _ _ _).mono ?_; rintro e w' ⟨rfl, rfl⟩)
        go_ret
        exact ⟨ret_bool Hr.out.symm, rfl⟩
      · by_cases hk0 : k = 0
        · subst hk0
          have c0 : w.cell? ⟨b, off, none⟩ = some (I (gi zs 0)) := c1
          have Hs : Hid (∀ j, j < 0 + 1 → okAt p zs j = true) := by
            intro j hj
            obtain rfl : j = 0 := by omega
            unfold okAt; rw [hin]; rfl
          go_wp2_with (go_at_call 38; refine (within_any _ _ _ _).mono ?_; rintro e w' ⟨rfl, rfl⟩)
          go_round
          case rel => exact ⟨0 + 1, by omega, by go_num, Hs.out⟩
          case measure => simp [intOf]; omega
        · have hkp : (0 : Int) < (k : Int) := by omega
          have hwk : IntKind.i64.wrap ((k : Int) - 1) = ((k - 1 : Nat) : Int) := by rw [IntWalk.i64_in _ ⟨by omega, by omega⟩]; omega
          obtain ⟨b', off', he, _, c2⟩ := Hx.out.at_ (k := k - 1) (by rw [Hn.out]; omega)
          injection he with he
          injection he with e1 e2 _
          subst e1 e2
          have i0 : (0 : Int) ≤ ((k - 1 : Nat) : Int) := by omega
          have i1 : ((k - 1 : Nat) : Int) < (n : Int) := by omega
          by_cases hge : gi zs (k - 1) < gi zs k
          · have hd : decide (gi zs k ≤ gi zs (k - 1)) = false := decide_eq_false (by omega)
            have Hs : Hid (∀ j, j < k + 1 → okAt p zs j = true) := by
              intro j hj
              by_cases e : j = k
              · subst e; unfold okAt; rw [hin, decide_eq_true hge]; simp
              · exact hg.out j (by omega)
            have hge2 : ¬ gi zs k ≤ gi zs (k - 1) := by omega
            clear hge
            go_wp2_with (go_at_call 38; refine (within_any _ _ _ _).mono ?_; rintro e w' ⟨rfl, rfl⟩)
            go_round
            case rel => exact ⟨k + 1, by omega, by go_num, Hs.out⟩
            case measure => simp [intOf]; omega
          · have hd : decide (gi zs k ≤ gi zs (k - 1)) = true := decide_eq_true (by omega)
            have Hr : Hid (isSetB p zs = false) := isSetB_false (k := k) (by rw [Hn.out]; exact hlt) (by unfold okAt; rw [hin, decide_eq_false hge, decide_eq_false hk0]; rfl)
            have hge2 : gi zs k ≤ gi zs (k - 1) := by omega
            clear hge
            go_wp2_with (go_at_call 38; refine (within_any _ _ _ _).mono ?_; rintro e w' ⟨rfl, rfl⟩)
            go_ret
            exact ⟨ret_bool Hr.out.symm, rfl⟩
    · have Hr : Hid (isSetB p zs = true) := isSetB_true fun j hj => hg.out j (by have := Hn.out; omega)
      go_wp2
      go_ret
      exact ⟨ret_bool Hr.out.symm, rfl⟩
def codeSet (f : M) (zs : List Int) : Int := if isMap f then (if isSetB f.p zs then 0 else 2) else 1
theorem codeSet_bad {f : M} {zs : List Int} (h : isMap f = false) : codeSet f zs = 1 := by simp [codeSet, h]
theorem codeSet_no {f : M} {zs : List Int} (h : isMap f = true) (hs : isSetB f.p zs = false) : codeSet f zs = 2 := by simp [codeSet, h, hs]
theorem codeSet_yes {f : M} {zs : List Int} (h : isMap f = true) (hs : isSetB f.p zs = true) : codeSet f zs = 0 := by simp [codeSet, h, hs]
theorem codeSet_zero {f : M} {zs : List Int} : codeSet f zs = 0 ↔ isMap f = true ∧ isSetB f.p zs = true := by
  unfold codeSet
  cases isMap f <;> cases isSetB f.p zs <;> simp
theorem setCode_any (f : M) (A : Option Addr) (n c : Nat) (zs : List Int) (w : World) (hx : RdI w w.heap.size A zs) (hn : zs.length = n) (hb : n < 1073741824) :
    Calls Tryz.prog 44 #[.agg (mc f), .slice A n c] w fun e w' => e = .returned (I (codeSet f zs)) ∧ Below w.heap.size w w' := by
  have Hn := Lib.hid hn
  have Hx := Lib.hid hx
  clear hn hx
  cases h : isMap f
  · have Hr := Lib.hid (codeSet_bad (zs := zs) h)
    go_enter Tryz.func44, Tryz.ntmps44
    go_wp2_with fail
    refine (isMap_any _ _).mono ?_
    rintro e w1 ⟨rfl, hb1⟩
    rw [h]
    have hbel : Below w.heap.size w w1 := Below.trans (by (repeat (first | with_reducible assumption | with_reducible exact Below.refl _ _ | with_reducible refine Below.setCell ?_ (by first | omega | (simp <;> omega)) _ | with_reducible refine Below.alloc ?_ (by first | omega | (simp <;> omega)) _ | with_reducible refine Below.drew ?_ | with_reducible refine Below.drewN ?_ _))) (hb1.mono (by simp <;> omega))
    clear hb1
    go_wp2
    go_ret
    exact ⟨ret_int Hr.out.symm, hbel⟩
  · have hv := (isMap_iff f).1 h
    have hp1 := hv.p1
    have hp5 := hv.p5
    cases hs : isSetB f.p zs
    all_goals
      first
        | have Hr := Lib.hid (codeSet_no h hs)
        | have Hr := Lib.hid (codeSet_yes h hs)
      go_enter Tryz.func44, Tryz.ntmps44
      go_wp2_with fail
      refine (isMap_any _ _).mono ?_
      rintro e w1 ⟨rfl, hb1⟩
      rw [h]
      have hsx : Six w1 w.heap.size f := Six.below (Blk.six (Blk.new w _ _)) hb1 (by simp)
      have hbel : Below w.heap.size w w1 := Below.trans (by (repeat (first | with_reducible assumption | with_reducible exact Below.refl _ _ | with_reducible refine Below.setCell ?_ (by first | omega | (simp <;> omega)) _ | with_reducible refine Below.alloc ?_ (by first | omega | (simp <;> omega)) _ | with_reducible refine Below.drew ?_ | with_reducible refine Below.drewN ?_ _))) (hb1.mono (by simp <;> omega))
      clear hb1
      go_wp2_with fail
      refine (isSet_any A n c f.p zs _ (Rd.more (Hx.out.below hbel) hbel.size) Hn.out hb hp1 hp5).mono ?_
      rintro e w2 ⟨rfl, rfl⟩
      rw [hs]
      go_wp2
      go_ret
      exact ⟨ret_int Hr.out.symm, hbel⟩
theorem l01In_q {n l h : Int} {b : Bool} (hv : inR n l h = b) (w : World) (m : Nat) :
    Calls Tryz.prog 58 #[.int .i64 n, .int .i64 l, .int .i64 h] (w.drewN m) fun e w'' => e = .returned (.bool b) ∧ ∃ k, w'' = w.drewN k :=
  (l01In_any n l h _).mono fun _ _ hh => ⟨by rw [hh.1, hv], m, hh.2.symm⟩
theorem l01Set_any (f : M) (A : Option Addr) (n c : Nat) (zs : List Int) (w : World) (hx : RdI w w.heap.size A zs) (hn : zs.length = n) (hb : n < 1073741824) :
    Calls Tryz.prog 46 #[.agg (mc f), .slice A n c] w fun e w' => e = .returned (I (codeSet f zs)) ∧ Below w.heap.size w w' := by
  have Hn := Lib.hid hn
  have Hx := Lib.hid hx
  clear hn hx
  cases h : isMap f
  · have Hr := Lib.hid (codeSet_bad (zs := zs) h)
    go_enter Tryz.func46, Tryz.ntmps46
    go_wp2_with fail
    refine (l01Is_any _ _).mono ?_
    rintro e w1 ⟨rfl, hb1⟩
    rw [h]
    have hbel : Below w.heap.size w w1 := Below.trans (by (repeat (first | with_reducible assumption | with_reducible exact Below.refl _ _ | with_reducible refine Below.setCell ?_ (by first | omega | (simp <;> omega)) _ | with_reducible refine Below.alloc ?_ (by first | omega | (simp <;> omega)) _ | with_reducible refine Below.drew ?_ | with_reducible refine Below.drewN ?_ _))) (hb1.mono (by simp <;> omega))
    clear hb1
    go_wp2
    go_ret
    exact ⟨ret_int Hr.out.symm, hbel⟩
  · have hv := (isMap_iff f).1 h
    have hp1 := hv.p1
    have hp5 := hv.p5
    have hwp : IntKind.i64.wrap (f.p - 1) = f.p - 1 := IntWalk.i64_in _ ⟨by omega, by omega⟩
    go_enter Tryz.func46, Tryz.ntmps46
    go_wp2_with fail
    refine (l01Is_any _ _).mono ?_
    rintro e w1 ⟨rfl, hb1⟩
    rw [h]
    have hsx : Six w1 w.heap.size f := Six.below (Blk.six (Blk.new w _ _)) hb1 (by simp)
    have hbel : Below w.heap.size w w1 := Below.trans (by (repeat (first | with_reducible assumption | with_reducible exact Below.refl _ _ | with_reducible refine Below.setCell ?_ (by first | omega | (simp <;> omega)) _ | with_reducible refine Below.alloc ?_ (by first | omega | (simp <;> omega)) _ | with_reducible refine Below.drew ?_ | with_reducible refine Below.drewN ?_ _))) (hb1.mono (by simp <;> omega))
    clear hb1
    go_wp2_with fail
    go_loopw [5] (fun i wr => ∃ k : Nat, k ≤ n ∧ i = .int .i64 k ∧ Hid (∀ j, j < k → okAt f.p zs j = true) ∧ Six wr w.heap.size f ∧ Below w.heap.size w wr) (fun i _ => n - (intOf i).toNat)
    case atStart => exact ⟨0, by omega, rfl, fun j hj => absurd hj (by omega), hsx, hbel⟩
    case round =>
      clear hsx hbel
      obtain ⟨k, hk, rfl, hg, hsx, hbel⟩ := hrel
      by_cases hlt : k < n
      · obtain ⟨b, off, rfl, hbb, c1⟩ := RdI.at_ (Hx.out.below hbel) (k := k) (by rw [Hn.out]; exact hlt)
        have i2 : (0 : Int) ≤ (k : Int) := by omega
        have i3 : (k : Int) < (n : Int) := by omega
        cases hin : inR (gi zs k) 0 (f.p - 1)
        · have Hr : Hid (codeSet f zs = 2) := codeSet_no h (isSetB_false (k := k) (by rw [Hn.out]; exact hlt) (by unfold okAt; rw [hin]; rfl))
          go_wp2_with fail
          go_quiet ((go_at_call 58; exact l01In_q hin _ _))
          go_wp2
          go_ret
          exact ⟨ret_int Hr.out.symm, hbel.drewN _⟩
        · by_cases hk0 : k = 0
          · subst hk0
            have c0 : wr.cell? ⟨b, off, none⟩ = some (I (gi zs 0)) := c1
            have Hs : Hid (∀ j, j < 0 + 1 → okAt f.p zs j = true) := by
              intro j hj
              obtain rfl : j = 0 := by omega
              unfold okAt; rw [hin]; rfl
            go_wp2_with fail
            go_quiet ((go_at_call 58; exact l01In_q hin _ _))
            go_wp2
            go_roundw
            case rel => exact ⟨0 + 1, by omega, by go_num, Hs.out, hsx, hbel.drewN _⟩
            case measure => simp [intOf]; omega
          · have hkp : (0 : Int) < (k : Int) := by omega
            have hkd : decide ((0 : Int) < (k : Int)) = true := decide_eq_true hkp
            have hkn : 0 < k := by omega
            have hkd2 : decide (0 < k) = true := decide_eq_true hkn
            have hwk : IntKind.i64.wrap ((k : Int) - 1) = ((k - 1 : Nat) : Int) := by rw [IntWalk.i64_in _ ⟨by omega, by omega⟩]; omega
            obtain ⟨b', off', he, _, c2⟩ := RdI.at_ (Hx.out.below hbel) (k := k - 1) (by rw [Hn.out]; omega)
            injection he with he
            injection he with e1 e2 _
            subst e1 e2
            have i0 : (0 : Int) ≤ ((k - 1 : Nat) : Int) := by omega
            have i1 : ((k - 1 : Nat) : Int) < (n : Int) := by omega
            by_cases hge : gi zs (k - 1) < gi zs k
            · have hd : decide (gi zs k ≤ gi zs (k - 1)) = false := decide_eq_false (by omega)
              have Hs : Hid (∀ j, j < k + 1 → okAt f.p zs j = true) := by
                intro j hj
                by_cases e : j = k
                · subst e; unfold okAt; rw [hin, decide_eq_true hge]; simp
                · exact hg.out j (by omega)
              have hge2 : ¬ gi zs k ≤ gi zs (k - 1) := by omega
              clear hge
              go_wp2_with fail
              go_quiet ((go_at_call 58; exact l01In_q hin _ _))
              go_wp2
              go_roundw
              case rel => exact ⟨k + 1, by omega, by go_num, Hs.out, hsx, hbel.drewN _⟩
              case measure => simp [intOf]; omega
            · have hd : decide (gi zs k ≤ gi zs (k - 1)) = true := decide_eq_true (by omega)
              have Hr : Hid (codeSet f zs = 2) := codeSet_no h (isSetB_false (k := k) (by rw [Hn.out]; exact hlt) (by unfold okAt; rw [hin, decide_eq_false hge, decide_eq_false hk0]; rfl))
              have hge2 : gi zs k ≤ gi zs (k - 1) := by omega
              clear hge
              go_wp2_with fail
              go_quiet ((go_at_call 58; exact l01In_q hin _ _))
              go_wp2
              go_ret
              exact ⟨ret_int Hr.out.symm, hbel.drewN _⟩
      · have Hr : Hid (codeSet f zs = 0) := codeSet_yes h (isSetB_true fun j hj => hg.out j (by have := Hn.out; omega))
        go_wp2
        go_ret
        exact ⟨ret_int Hr.out.symm, hbel⟩
end Go.Proofs.YtahamedecibmnaaGreat

namespace Go.Proofs
open Go.Shelf
def Tryz.lays125_ren : Go.Shelf.Ren := ⟨fun | 125 => 83 | 128 => 96 | 129 => 97 | n => n, fun | 46 => 85 | 3 => 3 | 51 => 107 | 53 => 64 | 4 => 4 | 5 => 5 | 9 => 9 | n => n, fun | n => n⟩
theorem Tryz.lays125 : Go.Proofs.Lays.n125 Tryz.prog Tryz.lays125_ren := {
  mixed := by kernel_rfl
  f125 := Tryz.func83.trans (congrArg some (by kernel_rfl))
  f128 := Tryz.func96.trans (congrArg some (by kernel_rfl))
  f129 := Tryz.func97.trans (congrArg some (by kernel_rfl))
  t3 := Tryz.underlying3
  a3 := Tryz.isAgg3
  z3 := Tryz.sizeOf3
  v3 := Tryz.zeroValue3
  t4 := Tryz.underlying4
  a4 := Tryz.isAgg4
  z4 := Tryz.sizeOf4
  v4 := Tryz.zeroValue4
  t5 := Tryz.underlying5
  a5 := Tryz.isAgg5
  z5 := Tryz.sizeOf5
  v5 := Tryz.zeroValue5
  t9 := Tryz.underlying9
  a9 := Tryz.isAgg9
  z9 := Tryz.sizeOf9
  v9 := Tryz.zeroValue9
  t46 := Tryz.underlying85
  a46 := Tryz.isAgg85
  z46 := Tryz.sizeOf85
  v46 := Tryz.zeroValue85
  t51 := Tryz.underlying107
  a51 := Tryz.isAgg107
  z51 := Tryz.sizeOf107
  v51 := Tryz.zeroValue107
  t53 := Tryz.underlying64
  a53 := Tryz.isAgg64
  z53 := Tryz.sizeOf64
  v53 := Tryz.zeroValue64 }
theorem Tryz.bits_Len (x : Int) (w : World) (h0 : 0 ≤ x) (h1 : x ≤ 18446744073709551615) :
    Calls Tryz.prog 83 #[.int .u64 x] w fun e w' => e = .returned (.int .i64 (Lib.bitLen x.toNat)) ∧ w' = w := Any.bits_Len Tryz.lays125 x w h0 h1
end Go.Proofs

namespace Go.Proofs.YtahamedecibmnaaGreat
open Go.RowKit
set_option maxRecDepth 100000
theorem isNaN_any (x : Int) (w : World) : Calls Tryz.prog 85 #[I x] w fun e w' => e = .returned (.bool false) ∧ w = w' := by
  have h : (x != x) = false := by simp
  go_enter Tryz.func85, Tryz.ntmps85
  go_wp2
  go_ret
  exact ⟨by simp, rfl⟩
theorem less_any (x y : Int) (w : World) : Calls Tryz.prog 93 #[I x, I y] w fun e w' => e = .returned (.bool (decide (x < y))) ∧ w = w' := by
  cases h : decide (x < y)
  · have h' : ¬ x < y := by simpa using h
    go_enter Tryz.func93, Tryz.ntmps93
    go_wp2_with (go_at_call 85; refine (isNaN_any _ _).mono ?_; rintro e w' ⟨rfl, rfl⟩)
    go_ret
    exact ⟨rfl, rfl⟩
  · have h' : x < y := by simpa using h
    go_enter Tryz.func93, Tryz.ntmps93
    go_wp2_with (go_at_call 85; refine (isNaN_any _ _).mono ?_; rintro e w' ⟨rfl, rfl⟩)
    go_ret
    exact ⟨rfl, rfl⟩
def idx (z : Int) : List Int → Int
  | [] => -1
  | x :: xs => if z = x then 0 else (if idx z xs = -1 then -1 else idx z xs + 1)
theorem idx_ge (z : Int) : ∀ xs, -1 ≤ idx z xs ∧ (idx z xs = -1 ↔ z ∉ xs)
  | [] => by simp [idx]
  | x :: xs => by
    have ih := idx_ge z xs
    unfold idx
    by_cases h : z = x
    · simp [h]
    · rw [if_neg h]
      by_cases h1 : idx z xs = -1
      · rw [if_pos h1]; simp [h, ih.2.1 h1]
      · rw [if_neg h1]
        have : z ∈ xs := by
          refine Classical.byContradiction fun hn => h1 (ih.2.2 hn)
        simp [this]; omega
theorem idx_found {z : Int} : ∀ {xs : List Int} {k : Nat}, k < xs.length → gi xs k = z → (∀ j, j < k → gi xs j ≠ z) → idx z xs = k
  | [], k, hk, _, _ => by simp at hk
  | x :: xs, 0, _, h, _ => by simp [gi] at h; simp [idx, h]
  | x :: xs, k + 1, hk, h, hn => by
    have h0 : z ≠ x := fun e => hn 0 (by omega) (by simp [gi, e])
    have ih := idx_found (z := z) (xs := xs) (k := k) (by simpa using hk) (by simpa [gi] using h) (fun j hj => by have := hn (j + 1) (by omega); simpa [gi] using this)
    unfold idx
    rw [if_neg h0, ih, if_neg (by omega)]
    simp
theorem idx_none {z : Int} {xs : List Int} (h : ∀ j, j < xs.length → gi xs j ≠ z) : idx z xs = -1 := by
  rw [(idx_ge z xs).2]
  intro hm
  obtain ⟨j, hj, e⟩ := List.getElem_of_mem hm
  exact h j hj (by rw [gi_eq hj]; exact e)
theorem index_any (A : Option Addr) (n c : Nat) (zs : List Int) (z : Int) (w : World) (hx : RdI w w.heap.size A zs) (hn : zs.length = n) (hb : n < 1073741824) :
    Calls Tryz.prog 75 #[.slice A n c, I z] w fun e w' => e = .returned (I (idx z zs)) ∧ w = w' := by
  have Hn := Lib.hid hn
  have Hx := Lib.hid hx
  clear hn hx
  go_enter Tryz.func75, Tryz.ntmps75
  go_wp2
  go_loop [8] (fun i => ∃ k : Nat, k ≤ n ∧ i = .int .i64 k ∧ Hid (∀ j, j < k → gi zs j ≠ z)) (fun i => n - (intOf i).toNat)
  case atStart => exact ⟨0, by omega, rfl, fun j hj => absurd hj (by omega)⟩
  case round =>
    obtain ⟨k, hk, rfl, hg⟩ := hrel
    by_cases hlt : k < n
    · obtain ⟨b, off, rfl, hbb, c1⟩ := Hx.out.at_ (k := k) (by rw [Hn.out]; exact hlt)
      by_cases he : z = gi zs k
      · have heb : (z == gi zs k) = true := by simp [he]
        have Hr : Hid (idx z zs = k) := idx_found (by rw [Hn.out]; exact hlt) he.symm hg.out
        clear he
        go_wp2
        go_ret
        exact ⟨ret_int Hr.out.symm, rfl⟩
      · have heb : (z == gi zs k) = false := by simp [he]
        have Hr : Hid (∀ j, j < k + 1 → gi zs j ≠ z) := by
          intro j hj
          by_cases e : j = k
          · subst e; exact fun h => he h.symm
          · exact hg.out j (by omega)
        clear he
        go_wp2
        go_round
        case rel => exact ⟨k + 1, by omega, by go_num, Hr.out⟩
        case measure => simp [intOf]; omega
    · have Hr : Hid (idx z zs = -1) := idx_none fun j hj => hg.out j (by have := Hn.out; omega)
      go_wp2
      go_ret
      exact ⟨ret_int Hr.out.symm, rfl⟩
theorem contains_any (A : Option Addr) (n c : Nat) (zs : List Int) (z : Int) (w : World) (hx : RdI w w.heap.size A zs) (hn : zs.length = n) (hb : n < 1073741824) :
    Calls Tryz.prog 52 #[.slice A n c, I z] w fun e w' => e = .returned (.bool (decide (z ∈ zs))) ∧ w = w' := by
  have h1 := (idx_ge z zs).1
  by_cases hm : z ∈ zs
  · have h2 : 0 ≤ idx z zs := by have := (idx_ge z zs).2; have : idx z zs ≠ -1 := fun e => (this.1 e) hm; omega
    have Hm : Hid (decide (z ∈ zs) = true) := decide_eq_true hm
    clear hm
    go_enter Tryz.func52, Tryz.ntmps52
    go_wp2_with (go_at_call 75; refine (index_any A n c zs z _ hx hn hb).mono ?_; rintro e w' ⟨rfl, rfl⟩)
    go_ret
    exact ⟨ret_bool Hm.out.symm, rfl⟩
  · have h2 : ¬ 0 ≤ idx z zs := by have := ((idx_ge z zs).2.2 hm); omega
    have Hm : Hid (decide (z ∈ zs) = false) := decide_eq_false hm
    clear hm
    go_enter Tryz.func52, Tryz.ntmps52
    go_wp2_with (go_at_call 75; refine (index_any A n c zs z _ hx hn hb).mono ?_; rintro e w' ⟨rfl, rfl⟩)
    go_ret
    exact ⟨ret_bool (by rw [Hm.out]; exact decide_eq_false (by omega)), rfl⟩
def SortedTo (cs : List Int) (i : Nat) : Prop := ∀ a b, a < b → b < i → gi cs a ≤ gi cs b
def Ins (cs : List Int) (i j : Nat) : Prop := (∀ a b, a < b → b ≤ i → a ≠ j → b ≠ j → gi cs a ≤ gi cs b) ∧ ∀ b, j < b → b ≤ i → gi cs j ≤ gi cs b
theorem Ins.start {cs : List Int} {i : Nat} (h : SortedTo cs i) : Ins cs i i := ⟨fun a b hab hb _ hbi => h a b hab (by omega), fun b h1 h2 => by omega⟩
theorem Ins.stop {cs : List Int} {i j : Nat} (h : Ins cs i j) (hs : j = 0 ∨ gi cs (j - 1) ≤ gi cs j) : SortedTo cs (i + 1) := by
  have main : ∀ a b, a < b → b ≤ i → gi cs a ≤ gi cs b := by
    intro a b hab hb
    by_cases h1 : a = j
    · subst h1; exact h.2 b hab hb
    · by_cases h2 : b = j
      · subst h2
        rcases hs with h0 | h0
        · omega
        · by_cases h3 : a = b - 1
          · subst h3; exact h0
          · exact Int.le_trans (h.1 a (b - 1) (by omega) (by omega) h1 (by omega)) h0
      · exact h.1 a b hab hb h1 h2
  exact fun a b hab hb => main a b hab (by omega)
def swapped (cs : List Int) (j : Nat) : List Int := (cs.set j (gi cs (j - 1))).set (j - 1) (gi cs j)
theorem gi_set {cs : List Int} {k j : Nat} {v : Int} (hk : k < cs.length) : gi (cs.set k v) j = if j = k then v else gi cs j := by
  unfold gi
  by_cases h : j = k
  · subst h; simp [List.getD, hk]
  · rw [if_neg h]; simp [List.getD, List.getElem?_set_ne (Ne.symm h)]
theorem gi_swapped {cs : List Int} {j : Nat} (hj : j < cs.length) (h0 : 0 < j) (k : Nat) : gi (swapped cs j) k = if k = j - 1 then gi cs j else if k = j then gi cs (j - 1) else gi cs k := by
  unfold swapped
  rw [gi_set (by simp; omega), gi_set hj]
theorem Ins.step {cs : List Int} {i j : Nat} (h : Ins cs i j) (hj : j < cs.length) (h0 : 0 < j) (hji : j ≤ i) (hlt : gi cs j < gi cs (j - 1)) : Ins (swapped cs j) i (j - 1) := by
  constructor
  · intro a b hab hb ha1 hb1
    rw [gi_swapped hj h0, gi_swapped hj h0, if_neg ha1, if_neg hb1]
    by_cases h1 : a = j
    · subst h1
      rw [if_pos rfl, if_neg (by omega)]
      exact h.1 (a - 1) b (by omega) hb (by omega) (by omega)
    · rw [if_neg h1]
      by_cases h2 : b = j
      · subst h2
        rw [if_pos rfl]
        exact h.1 a (b - 1) (by omega) (by omega) h1 (by omega)
      · rw [if_neg h2]; exact h.1 a b hab hb h1 h2
  · intro b hb1 hb2
    rw [gi_swapped hj h0, gi_swapped hj h0, if_pos rfl, if_neg (by omega)]
    by_cases h2 : b = j
    · rw [if_pos h2]; omega
    · rw [if_neg h2]; exact h.2 b (by omega) hb2
theorem perm_swapped {cs : List Int} {j : Nat} (hj : j < cs.length) (h0 : 0 < j) : (swapped cs j).Perm cs := by
  rw [List.perm_iff_count]
  intro x
  have e1 : gi cs j = cs[j] := gi_eq hj
  have e2 : gi cs (j - 1) = cs[j - 1] := gi_eq (by omega)
  unfold swapped
  rw [List.count_set (by simp; omega), List.count_set hj]
  rw [List.getElem_set_ne (by omega)]
  have hp1 : 0 < cs.count cs[j] := List.count_pos_iff.2 (List.getElem_mem _)
  have hp2 : 0 < cs.count cs[j - 1] := List.count_pos_iff.2 (List.getElem_mem _)
  rw [e1, e2]
  generalize cs[j] = u at *
  generalize cs[j - 1] = v at *
  by_cases c1 : u = x
  · subst c1
    by_cases c2 : v = u
    · subst c2; simp; omega
    · simp [c2]; omega
  · by_cases c2 : v = x
    · subst c2; simp [c1]
    · simp [c1, c2]
theorem drewN_grown {w w' : World} {row : Option Nat} (h : w.grownBy w' row) (n : Nat) : w.grownBy (w'.drewN n) row := ⟨h.os, h.tape, h.output, h.size, h.block⟩
theorem insertion_any (v : Value) (B : Nat) (zs : List Int) (n : Nat) (w : World) (hown : OwI 2 w B v zs) (hn : zs.length = n) (hb : n < 1073741824) :
    Calls Tryz.prog 87 #[v, .int .i64 0, .int .i64 n] w fun e w' => e = .returned (.tuple #[]) ∧ ∃ cs, cs.Perm zs ∧ SortedTo cs n ∧ OwI 2 w' B v cs ∧ w.grownBy w' v.ownBlock := by
  obtain ⟨A, c, rfl, _⟩ := hown.form
  have Hn := Lib.hid hn
  clear hn
  go_enter Tryz.func87, Tryz.ntmps87
  go_wp2
  go_loopw [6] (fun i wr => ∃ k : Nat, 1 ≤ k ∧ (k ≤ n ∨ k = 1) ∧ i = .int .i64 k ∧ ∃ cs : List Int, Hid (cs.Perm zs ∧ SortedTo cs k) ∧ OwI 2 wr B (.slice A zs.length c) cs ∧ w.grownBy wr (Value.slice A zs.length c).ownBlock) (fun i _ => n - (intOf i).toNat)
  case atStart => exact ⟨1, by omega, by omega, rfl, zs, ⟨List.Perm.refl _, fun a b h1 h2 => by omega⟩, hown, World.grownBy.refl w _⟩
  case round =>
    obtain ⟨k, hk1, hk2, rfl, cs, hcs, ho, hg⟩ := hrel
    by_cases hlt : k < n
    · go_wp2_with fail
      have hk3 : k < n := hlt
      clear hlt
      go_loopw [7] (fun jv wq => ∃ j : Nat, j ≤ k ∧ jv = .int .i64 j ∧ ∃ ds : List Int, Hid (ds.Perm zs ∧ Ins ds k j) ∧ OwI 2 wq B (.slice A zs.length c) ds ∧ w.grownBy wq (Value.slice A zs.length c).ownBlock) (fun jv _ => (intOf jv).toNat)
      case atStart => exact ⟨k, by omega, rfl, cs, ⟨hcs.out.1, Ins.start hcs.out.2⟩, ho, hg⟩
      case round =>
        clear ho hg
        obtain ⟨j, hj, rfl, ds, hds, ho, hg⟩ := hrel
        have hlen : ds.length = n := by rw [hds.out.1.length_eq, Hn.out]
        match j, hj, hds with
        | 0, hj, hds =>
          have Hs : Hid (ds.Perm zs ∧ SortedTo ds (k + 1)) := ⟨hds.out.1, hds.out.2.stop (.inl rfl)⟩
          clear hlen
          have hgt : decide ((0 : Int) < 0) = false := by decide
          go_wp2_with fail
          go_quiet ((go_at_call 93; exact Calls.quiet_of_same ((less_any _ _ _).mono fun _ _ h => ⟨h.1, h.2.symm⟩)))
          go_wp2
          go_roundw
          case rel => exact ⟨k + 1, by omega, by omega, by go_num, ds, Hs, ho.drewN _, drewN_grown hg _⟩
          case measure => simp [intOf]; omega
        | q + 1, hj, hds =>
          obtain ⟨g, c', he, hgB, hgl, c1, z1, hs1⟩ := ho.spot (k := q + 1) (by omega)
          obtain ⟨_, _, he', _, _, c2, z2, hs2⟩ := ho.spot (k := q) (by omega)
          injection he with he1 he3 he2
          subst he1 he2
          injection he' with he1 hx1 hx2
          injection he1 with he1
          injection he1 with he1 hx3
          subst he1
          clear hx1 hx2
          have Hlen := Lib.hid hlen
          have H1 := Lib.hid hs1
          have H2 := Lib.hid hs2
          have Ho := Lib.hid ho
          clear hlen hs1 hs2 he3 ho
          have b1 : (0 : Int) < (q : Int) + 1 := by omega
          have b2 : (0 : Int) ≤ (q : Int) + 1 := by omega
          have b3 : (q : Int) + 1 < (zs.length : Int) := by have := Hn.out; omega
          have b4 : (0 : Int) ≤ (q : Int) := by omega
          have b5 : (q : Int) < (zs.length : Int) := by have := Hn.out; omega
          have e1 : ((q : Int) + 1).toNat = q + 1 := by omega
          have e2 : IntKind.i64.wrap ((q : Int) + 1 - 1) = (q : Int) := IntWalk.i64_in _ (by omega) |>.trans (by omega)
          have hgt : decide ((0 : Int) < (q : Int) + 1) = true := decide_eq_true b1
          by_cases hl : gi ds (q + 1) < gi ds q
          · have hlb : decide (gi ds (q + 1) < gi ds q) = true := decide_eq_true hl
            go_wp2_with fail
            go_quiet ((go_at_call 93; exact Calls.quiet_of_same ((less_any _ _ _).mono fun _ _ h => ⟨h.1, h.2.symm⟩)))
            go_wp2_with fail
            have Hs : Hid ((swapped ds (q + 1)).Perm zs ∧ Ins (swapped ds (q + 1)) k q) :=
              ⟨(perm_swapped (by have := Hlen.out; have := Hn.out; omega) (by omega)).trans hds.out.1, hds.out.2.step (by have := Hlen.out; have := Hn.out; omega) (by omega) hj (by simpa using hl)⟩
            go_region
            go_wp2
            go_roundw
            case rel =>
              have h1 := H1.out (gi ds q)
              obtain ⟨g2, _, he2, _, _, _, _, h2⟩ := h1.spot (k := q) (by have := Hlen.out; have := Hn.out; simp; omega)
              injection he2 with he2 _ _
              injection he2 with he2
              injection he2 with he2 _
              subst he2
              exact ⟨q, by omega, by go_num, swapped ds (q + 1), Hs, (h2 (gi ds (q + 1))).of_heap rfl, grownBy_set (grownBy_set (drewN_grown hg _))⟩
            case measure => simp [intOf]
          · have hlb : decide (gi ds (q + 1) < gi ds q) = false := decide_eq_false hl
            have Hs : Hid (ds.Perm zs ∧ SortedTo ds (k + 1)) := ⟨hds.out.1, hds.out.2.stop (.inr (by simpa using hl))⟩
            go_wp2_with fail
            go_quiet ((go_at_call 93; exact Calls.quiet_of_same ((less_any _ _ _).mono fun _ _ h => ⟨h.1, h.2.symm⟩)))
            go_wp2
            go_roundw
            case rel => exact ⟨k + 1, by omega, by omega, by go_num, ds, Hs, Ho.out.drewN _, drewN_grown hg _⟩
            case measure => simp [intOf]; omega
    · have Hfin : Hid (cs.Perm zs ∧ SortedTo cs n) := ⟨hcs.out.1, fun a b h1 h2 => hcs.out.2 a b h1 (by omega)⟩
      go_wp2
      go_end0
      exact ⟨rfl, cs, Hfin.out.1, Hfin.out.2, ho, hg⟩
theorem pdq_any (v : Value) (B : Nat) (zs : List Int) (n : Nat) (lim : Int) (w : World) (hown : OwI 2 w B v zs) (hn : zs.length = n) (hb : n ≤ 12) :
    Calls Tryz.prog 82 #[v, .int .i64 0, .int .i64 n, .int .i64 lim] w fun e w' => e = .returned (.tuple #[]) ∧ ∃ cs, cs.Perm zs ∧ SortedTo cs n ∧ OwI 2 w' B v cs ∧ w.grownBy w' v.ownBlock := by
  have Hn := Lib.hid hn
  have Ho := Lib.hid hown
  clear hn hown
  have h1 : (n : Int) ≤ 12 := by omega
  go_enter Tryz.func82, Tryz.ntmps82
  go_wp2_with fail
  refine wp_loop_rounds 1 ?_
  rw [rounds_succ]
  go_wp2_with fail
  refine (insertion_any v B zs n _ Ho.out Hn.out (by omega)).mono ?_
  rintro e w1 ⟨rfl, H⟩
  have HH := Lib.hid H
  clear H
  go_wp2
  exact bodyPost_ret (v := .tuple #[]) (by simp [results, Tryz.results82, go_sem]) rfl ⟨rfl, HH.out⟩
theorem sortI_any (v : Value) (B : Nat) (zs : List Int) (w : World) (hown : OwI 2 w B v zs) (hb : zs.length ≤ 12) :
    Calls Tryz.prog 71 #[v] w fun e w' => e = .returned (.tuple #[]) ∧ ∃ cs, cs.Perm zs ∧ SortedTo cs zs.length ∧ OwI 2 w' B v cs ∧ w.grownBy w' v.ownBlock := by
  obtain ⟨A, c, rfl, _⟩ := hown.form
  have Ho := Lib.hid hown
  clear hown
  have h0 : (0 : Int) ≤ (zs.length : Int) := by omega
  have h1 : (zs.length : Int) ≤ 12 := by omega
  go_enter Tryz.func71, Tryz.ntmps71
  go_wp2_with fail
  refine (Tryz.bits_Len (zs.length : Int) _ (by omega) (by omega)).mono ?_
  rintro e w1 ⟨rfl, rfl⟩
  go_wp2_with fail
  refine (pdq_any _ B zs zs.length _ _ Ho.out rfl hb).mono ?_
  rintro e w2 ⟨rfl, H⟩
  have HH := Lib.hid H
  clear H
  go_wp2
  go_end0
  exact ⟨rfl, HH.out⟩
end Go.Proofs.YtahamedecibmnaaGreat

namespace Go.Proofs.YtahamedecibmnaaGreat
open Go.RowKit
set_option maxRecDepth 100000
theorem dropsPre (h1 h2 : Nat) (q : Nat) (w0 w1 : World) (n : Nat) (pr : Int → Bool) (hcell : w1.cell? ⟨q, 0, none⟩ = some (.func (.func 51) #[] #[.pointer (some ⟨h1, 0, none⟩), .pointer (some ⟨h2, 0, none⟩)])) (hq : w0.heap.size ≤ q) (h01 : Below w0.heap.size w0 w1)
    (hIs : Hid (∀ w' z, Below w0.heap.size w0 w' → z ∈ ups n → Calls Tryz.prog 51 #[I z, .pointer (some ⟨h1, 0, none⟩), .pointer (some ⟨h2, 0, none⟩)] w' fun e w'' => e = .returned (.bool (pr z)) ∧ Below w'.heap.size w' w'')) : Drops q (q + 1) w1 (ups n) (fun z => !pr z) := by
  intro w' z hb hz
  have c1 := (hb.cell (p := ⟨q, 0, none⟩) (by simp)).trans hcell
  have Hc := Lib.hid (hIs.out w' z (h01.trans (hb.mono (by omega))) hz)
  clear hb hIs hcell h01
  go_enter Tryz.func74, Tryz.ntmps74
  go_wp2_with fail
  refine Hc.out.mono ?_
  rintro e w2 ⟨rfl, hb2⟩
  go_wp2
  go_ret
  exact ⟨rfl, hb2⟩
theorem wherePre (f : M) (h1 h2 : Nat) (w : World) (pr : Int → Bool) (hv : Valid f) (hIs : Hid (∀ w' z, Below w.heap.size w w' → z ∈ ups f.p.toNat → Calls Tryz.prog 51 #[I z, .pointer (some ⟨h1, 0, none⟩), .pointer (some ⟨h2, 0, none⟩)] w' fun e w'' => e = .returned (.bool (pr z)) ∧ Below w'.heap.size w' w'')) :
    Calls Tryz.prog 50 #[.agg (mc f), .func (.func 51) #[] #[.pointer (some ⟨h1, 0, none⟩), .pointer (some ⟨h2, 0, none⟩)]] w fun e w' => ∃ v, e = .returned v ∧ OwI 2 w' w.heap.size v (keepF (fun z => !pr z) (ups f.p.toNat)) ∧ Below w.heap.size w w' := by
  have hp1 := hv.p1
  have hp5 := hv.p5
  obtain ⟨n, hn⟩ : ∃ n : Nat, n = f.p.toNat := ⟨_, rfl⟩
  have hfp : f.p = (n : Int) := by omega
  rw [← hn] at hIs ⊢
  have hpt := fun w' => points_any n w' (by omega)
  rw [← hfp] at hpt
  have Hpt := Lib.hid hpt
  have hn1 : 1 ≤ n := by omega
  have hn5 : n ≤ 5 := by omega
  clear hpt hfp hn
  go_enter Tryz.func50, Tryz.ntmps50
  go_wp2_with fail
  refine (Hpt.out _).mono ?_
  rintro e w1 ⟨v, rfl, ho, hb⟩
  have hB1 : w1.cell? ⟨w.heap.size + 1, 0, none⟩ = some (.func (.func 51) #[] #[.pointer (some ⟨h1, 0, none⟩), .pointer (some ⟨h2, 0, none⟩)]) := (hb.cell (p := ⟨w.heap.size + 1, 0, none⟩) (by simp)).trans ((Blk.new' _ _ _ (by simp)).cell 0)
  have hbel : Below w.heap.size w w1 := Below.trans (by (repeat (first | with_reducible assumption | with_reducible exact Below.refl _ _ | with_reducible refine Below.setCell ?_ (by first | omega | (simp <;> omega)) _ | with_reducible refine Below.alloc ?_ (by first | omega | (simp <;> omega)) _ | with_reducible refine Below.drew ?_ | with_reducible refine Below.drewN ?_ _))) (hb.mono (by simp <;> omega))
  replace ho := ho.mono (B' := w.heap.size + 1 + 1) (by simp)
  have hsz : w.heap.size + 1 + 1 ≤ w1.heap.size := by have := hb.size; simpa using this
  have hd := dropsPre h1 h2 (w.heap.size + 1) w w1 n pr hB1 (by omega) hbel hIs
  obtain ⟨g, c, hv', _, _⟩ := World.ownsRow.form ho (by rw [ups_length]; omega)
  rw [ups_length] at hv'
  subst hv'
  have Hd := Lib.hid hd
  clear hb hB1 hd hIs
  go_wp2_with fail
  refine (deleteF_any g n c (w.heap.size + 1) (w.heap.size + 1 + 1) (ups n) (fun z => !pr z) w1 w1 ho (by omega) Hd.out (Below.refl _ _) hsz).mono ?_
  rintro e w2 ⟨v, rfl, ho2, hb2⟩
  have Ho := Lib.hid (ho2.mono (B' := w.heap.size) (by omega))
  replace hbel := hbel.trans (hb2.mono (by omega))
  clear ho ho2 hb2
  go_wp2
  go_ret
  exact ⟨_, rfl, Ho.out, hbel⟩
def preIs (f : M) (zs : List Int) (z : Int) : Bool := decide (f.at z.toNat ∈ zs)
theorem contains_q {A : Option Addr} {n c : Nat} {zs : List Int} {z : Int} (w : World) (m : Nat) (hx : RdI w w.heap.size A zs) (hn : zs.length = n) (hb : n < 1073741824) :
    Calls Tryz.prog 52 #[.slice A n c, I z] (w.drewN m) fun e w'' => e = .returned (.bool (decide (z ∈ zs))) ∧ ∃ k, w'' = w.drewN k :=
  (contains_any A n c zs z (w.drewN m) hx hn hb).mono fun _ _ hh => ⟨hh.1, m, hh.2.symm⟩
theorem preIs_any (f : M) (h1 h2 k : Nat) (A : Option Addr) (n c : Nat) (zs : List Int) (w : World) (hs : Six w h2 f) (hp : w.cell? ⟨h1, 0, none⟩ = some (.slice A n c)) (hk : k < 5) (hx : RdI w w.heap.size A zs) (hn : zs.length = n) (hb : n < 1073741824) :
    Calls Tryz.prog 51 #[.int .i64 k, .pointer (some ⟨h1, 0, none⟩), .pointer (some ⟨h2, 0, none⟩)] w fun e w' => e = .returned (.bool (preIs f zs k)) ∧ Below w.heap.size w w' := by
  have c1 := six_at hs k hk
  have i0 : (0 : Int) ≤ (k : Int) := by omega
  have i1 : (k : Int) < 5 := by omega
  have Hn := Lib.hid hn
  have Hx := Lib.hid hx
  clear hn hx hs
  go_enter Tryz.func51, Tryz.ntmps51
  go_wp2_with fail
  go_quiet ((go_at_call 52; exact contains_q _ _ Hx.out Hn.out hb))
  go_wp2
  go_ret
  exact ⟨rfl, (Below.refl _ _).drewN _⟩
def bmTo (zs : List Int) : Nat → Nat
  | 0 => 0
  | k + 1 => bmTo zs k ||| 2 ^ (gi zs k).toNat
theorem bmTo_lt {zs : List Int} (h : ∀ j, j < zs.length → 0 ≤ gi zs j ∧ gi zs j < 5) : ∀ k, k ≤ zs.length → bmTo zs k < 32
  | 0, _ => by simp [bmTo]
  | k + 1, hk => by
    have := h k (by omega)
    exact (or_run (bmTo_lt h k (by omega)) (a := (gi zs k).toNat) (by omega)).2
theorem bmTo_bit {zs : List Int} (j : Nat) : ∀ k, (bmTo zs k).testBit j = true ↔ ∃ i, i < k ∧ (gi zs i).toNat = j
  | 0 => by simp [bmTo]
  | k + 1 => by
    rw [bmTo, Nat.testBit_or, Bool.or_eq_true, bmTo_bit j k, Nat.testBit_two_pow, decide_eq_true_eq]
    constructor
    · rintro (⟨i, hi, e⟩ | e)
      · exact ⟨i, by omega, e⟩
      · exact ⟨k, by omega, e⟩
    · rintro ⟨i, hi, e⟩
      by_cases h : i = k
      · subst h; exact .inr e
      · exact .inl ⟨i, by omega, e⟩
theorem bm_mem {zs : List Int} (h : ∀ j, j < zs.length → 0 ≤ gi zs j ∧ gi zs j < 5) {z : Int} (hz : 0 ≤ z) : (bmTo zs zs.length).testBit z.toNat = decide (z ∈ zs) := by
  rw [Bool.eq_iff_iff, bmTo_bit, decide_eq_true_eq]
  constructor
  · rintro ⟨i, hi, e⟩
    have := h i hi
    have e2 : gi zs i = z := by omega
    rw [← e2]; exact gi_mem hi
  · intro hm
    obtain ⟨i, hi, e⟩ := List.getElem_of_mem hm
    exact ⟨i, hi, by rw [gi_eq hi, e]⟩
theorem set_bd {f : M} {zs : List Int} (hv : Valid f) (hs : isSetB f.p zs = true) : ∀ j, j < zs.length → 0 ≤ gi zs j ∧ gi zs j < 5 := by
  intro j hj
  have := isSetB_iff.1 hs j hj
  unfold okAt at this
  rw [Bool.and_eq_true] at this
  have := inR_true.1 this.1
  have := hv.p5
  omega
theorem l01Bits_any (A : Option Addr) (n c : Nat) (zs : List Int) (w : World) (hx : RdI w w.heap.size A zs) (hn : zs.length = n) (hb : n < 1073741824) (hbd : ∀ j, j < zs.length → 0 ≤ gi zs j ∧ gi zs j < 5) :
    Calls Tryz.prog 49 #[.slice A n c] w fun e w' => e = .returned (I (bmTo zs n)) ∧ w = w' := by
  have Hn := Lib.hid hn
  have Hx := Lib.hid hx
  have Hd := Lib.hid hbd
  clear hn hx hbd
  go_enter Tryz.func49, Tryz.ntmps49
  go_wp2
  go_loop [3, 4] (fun s i => ∃ k : Nat, k ≤ n ∧ s = I (bmTo zs k) ∧ i = .int .i64 k) (fun _ i => n - (intOf i).toNat)
  case atStart => exact ⟨0, by omega, rfl, rfl⟩
  case round =>
    obtain ⟨k, hk, rfl, rfl⟩ := hrel
    by_cases hlt : k < n
    · obtain ⟨b, off, rfl, hbb, c1⟩ := Hx.out.at_ (k := k) (by rw [Hn.out]; exact hlt)
      obtain ⟨b1, b2⟩ := Hd.out k (by rw [Hn.out]; exact hlt)
      have ho := (or_run (bmTo_lt Hd.out k (by rw [Hn.out]; exact hk)) (a := (gi zs k).toNat) (by omega)).1
      have Hi : Hid (bmTo zs (k + 1) = bmTo zs k ||| 2 ^ (gi zs k).toNat) := rfl
      go_wp2
      go_round
      case rel => exact ⟨k + 1, by omega, by rw [Hi.out], by go_num⟩
      case measure => simp [intOf]; omega
    · obtain rfl : k = n := by omega
      go_wp2
      go_ret
      exact ⟨rfl, rfl⟩
def preR (f : M) (zs : List Int) : List Int := if codeSet f zs = 0 then sel (preIs f zs) f.p.toNat else []
theorem preR_bad {f : M} {zs : List Int} (h : codeSet f zs ≠ 0) : preR f zs = [] := by simp [preR, h]
theorem preR_good {f : M} {zs : List Int} (h : codeSet f zs = 0) : preR f zs = sel (preIs f zs) f.p.toNat := by simp [preR, h]
theorem preR_len (f : M) (zs : List Int) : (preR f zs).length < 1073741824 := by
  by_cases h : codeSet f zs = 0
  · rw [preR_good h]; have := ((isMap_iff f).1 (codeSet_zero.1 h).1).p5; have := sel_length (preIs f zs) f.p.toNat; omega
  · rw [preR_bad h]; simp
theorem ImplPre_any (f : M) (A : Option Addr) (n c : Nat) (zs : List Int) (w : World) (hx : RdI w w.heap.size A zs) (hn : zs.length = n) (hb : n < 1073741824) :
    Calls Tryz.prog 19 #[.agg (mc f), .slice A n c] w fun e w' => ∃ v, e = .returned (.tuple #[v, I (codeSet f zs)]) ∧ OwI 2 w' w.heap.size v (preR f zs) ∧ Below w.heap.size w w' := by
  have Hn := Lib.hid hn
  have Hx := Lib.hid hx
  clear hn hx
  have HX : Hid (∀ w', Below w.heap.size w w' → RdI w' w'.heap.size A zs) := fun w' hb => Rd.more (Hx.out.below hb) hb.size
  by_cases hc : codeSet f zs = 0
  · have Hr := Lib.hid (preR_good hc)
    have hv := (isMap_iff f).1 (codeSet_zero.1 hc).1
    have hp1 := hv.p1
    have hp5 := hv.p5
    have hcb : (codeSet f zs != 0) = false := by simp [hc]
    have Hc := Lib.hid hc
    clear hc
    go_enter Tryz.func19, Tryz.ntmps19
    go_wp2_with fail
    refine (setCode_any f A n c zs _ (HX.out _ (by (repeat (first | with_reducible assumption | with_reducible exact Below.refl _ _ | with_reducible refine Below.setCell ?_ (by first | omega | (simp <;> omega)) _ | with_reducible refine Below.alloc ?_ (by first | omega | (simp <;> omega)) _ | with_reducible refine Below.drew ?_ | with_reducible refine Below.drewN ?_ _)))) Hn.out hb).mono ?_
    rintro e w1 ⟨rfl, hb1⟩
    have hs : Six w1 w.heap.size f := Six.below (Blk.six ((Blk.new w _ _).alloc _)) hb1 (by simp <;> omega)
    have hq : w1.cell? ⟨w.heap.size + 1, 0, none⟩ = some (.slice A n c) := (hb1.cell (p := ⟨w.heap.size + 1, 0, none⟩) (by simp)).trans ((Blk.new' _ _ _ (by simp)).cell 0)
    have hbel : Below w.heap.size w w1 := Below.trans (by (repeat (first | with_reducible assumption | with_reducible exact Below.refl _ _ | with_reducible refine Below.setCell ?_ (by first | omega | (simp <;> omega)) _ | with_reducible refine Below.alloc ?_ (by first | omega | (simp <;> omega)) _ | with_reducible refine Below.drew ?_ | with_reducible refine Below.drewN ?_ _))) (hb1.mono (by simp <;> omega))
    have hq1 : w.heap.size + 1 < w1.heap.size := World.block_lt_of_cell? w1 ⟨w.heap.size + 1, 0, none⟩ hq
    have hwh := wherePre f (w.heap.size + 1) w.heap.size w1 (preIs f zs) hv (by
      intro w' z hb' hz
      obtain ⟨k, hk, rfl⟩ := ups_mem hz
      exact preIs_any f (w.heap.size + 1) w.heap.size k A n c zs w' (hs.below hb' hs.lt) ((hb'.cell (p := ⟨w.heap.size + 1, 0, none⟩) hq1).trans hq) (by omega) (HX.out _ (hbel.trans (hb'.mono hbel.size))) Hn.out hb)
    have Hwh := Lib.hid hwh
    clear hb1 hwh
    go_wp2_with fail
    refine Hwh.out.mono ?_
    rintro e w2 ⟨v, rfl, ho, hb2⟩
    rw [keep_sel] at ho
    have Ho := Lib.hid (ho.mono hbel.size)
    replace hbel := hbel.trans (hb2.mono hbel.size)
    clear hb2 Hwh ho
    go_wp2
    go_ret2
    exact ⟨_, by rw [Hc.out] <;> rfl, by rw [Hr.out]; exact Ho.out, hbel⟩
  · have Hr := Lib.hid (preR_bad hc)
    have hcb : (codeSet f zs != 0) = true := by simp [hc]
    clear hc
    go_enter Tryz.func19, Tryz.ntmps19
    go_wp2_with fail
    refine (setCode_any f A n c zs _ (HX.out _ (by (repeat (first | with_reducible assumption | with_reducible exact Below.refl _ _ | with_reducible refine Below.setCell ?_ (by first | omega | (simp <;> omega)) _ | with_reducible refine Below.alloc ?_ (by first | omega | (simp <;> omega)) _ | with_reducible refine Below.drew ?_ | with_reducible refine Below.drewN ?_ _)))) Hn.out hb).mono ?_
    rintro e w1 ⟨rfl, hb1⟩
    have hbel : Below w.heap.size w w1 := Below.trans (by (repeat (first | with_reducible assumption | with_reducible exact Below.refl _ _ | with_reducible refine Below.setCell ?_ (by first | omega | (simp <;> omega)) _ | with_reducible refine Below.alloc ?_ (by first | omega | (simp <;> omega)) _ | with_reducible refine Below.drew ?_ | with_reducible refine Below.drewN ?_ _))) (hb1.mono (by simp <;> omega))
    clear hb1
    go_wp2
    go_ret2
    exact ⟨_, rfl, by rw [Hr.out]; exact OwI.nil_, hbel⟩
theorem SpecPre_any (f : M) (A : Option Addr) (n c : Nat) (zs : List Int) (w : World) (hx : RdI w w.heap.size A zs) (hn : zs.length = n) (hb : n < 1073741824) :
    Calls Tryz.prog 22 #[.agg (mc f), .slice A n c] w fun e w' => ∃ v, e = .returned (.tuple #[v, I (codeSet f zs)]) ∧ OwI 2 w' w.heap.size v (preR f zs) ∧ Below w.heap.size w w' := by
  have Hn := Lib.hid hn
  have Hx := Lib.hid hx
  clear hn hx
  have HX : Hid (∀ w', Below w.heap.size w w' → RdI w' w'.heap.size A zs) := fun w' hb => Rd.more (Hx.out.below hb) hb.size
  by_cases hc : codeSet f zs = 0
  · have Hr := Lib.hid (preR_good hc)
    have hv := (isMap_iff f).1 (codeSet_zero.1 hc).1
    have hp1 := hv.p1
    have hp5 := hv.p5
    have Hd := Lib.hid (set_bd hv (codeSet_zero.1 hc).2)
    have hcb : (codeSet f zs != 0) = false := by simp [hc]
    have Hc := Lib.hid hc
    have hlt := bmTo_lt Hd.out n (by rw [Hn.out]; exact Nat.le_refl _)
    clear hc
    go_enter Tryz.func22, Tryz.ntmps22
    go_wp2_with fail
    refine (l01Set_any f A n c zs _ (HX.out _ (by (repeat (first | with_reducible assumption | with_reducible exact Below.refl _ _ | with_reducible refine Below.setCell ?_ (by first | omega | (simp <;> omega)) _ | with_reducible refine Below.alloc ?_ (by first | omega | (simp <;> omega)) _ | with_reducible refine Below.drew ?_ | with_reducible refine Below.drewN ?_ _)))) Hn.out hb).mono ?_
    rintro e w1 ⟨rfl, hb1⟩
    have hs : Six w1 w.heap.size f := Six.below (Blk.six (Blk.new w _ _)) hb1 (by simp <;> omega)
    have hbel : Below w.heap.size w w1 := Below.trans (by (repeat (first | with_reducible assumption | with_reducible exact Below.refl _ _ | with_reducible refine Below.setCell ?_ (by first | omega | (simp <;> omega)) _ | with_reducible refine Below.alloc ?_ (by first | omega | (simp <;> omega)) _ | with_reducible refine Below.drew ?_ | with_reducible refine Below.drewN ?_ _))) (hb1.mono (by simp <;> omega))
    have hl1 := hs.lt
    clear hb1
    go_wp2_with fail
    refine (l01Bits_any A n c zs _ (HX.out _ hbel) Hn.out hb Hd.out).mono ?_
    rintro e w2 ⟨rfl, rfl⟩
    go_wp2_with fail
    go_loopw [8, 9] (fun v i wr => ∃ k : Nat, (k : Int) ≤ f.p ∧ i = .int .i64 k ∧ OwI 2 wr (w.heap.size + 1) v (sel (preIs f zs) k) ∧ Six wr w.heap.size f ∧ Below w.heap.size w wr) (fun _ i _ => 5 - (intOf i).toNat)
    case atStart => exact ⟨0, by omega, rfl, OwI.mono (B := w1.heap.size) (OwI.made (Nat.le_refl _)) (by omega), hs.alloc _, hbel.alloc hbel.size _⟩
    case round =>
      clear hs hbel
      obtain ⟨k, hk, rfl, ho, hs, hbel⟩ := hrel
      obtain ⟨A', c', hv', _⟩ := ho.form
      obtain ⟨m, hm⟩ : ∃ m, m = (sel (preIs f zs) k).length := ⟨_, rfl⟩
      rw [← hm] at hv'
      subst hv'
      have Hm := Lib.hid hm
      have hm5 : m ≤ k := by rw [hm]; exact sel_length _ _
      have hsz := hbel.size
      have hsl := hs.lt
      clear hm
      by_cases hlk : (k : Int) < f.p
      · have c1 := six_at hs k (by omega)
        have b1 := hv.lo k (by omega) hlk
        have b2 := hv.hi k (by omega) hlk
        have hss := sel_succ (preIs f zs) k
        have ha := and_run (m := bmTo zs n) (k := (f.at k).toNat) hlt (by omega)
        have hbm := bm_mem Hd.out b1
        rw [Hn.out] at hbm
        rw [hbm] at ha
        have hpe : preIs f zs k = decide (f.at k ∈ zs) := by simp [preIs]
        rw [← hpe] at ha
        clear hbm hpe
        cases hq : preIs f zs k
        · rw [hq] at hss ha
          have Hss : Hid (sel (preIs f zs) (k + 1) = sel (preIs f zs) k) := by show _ = _; rw [hss]; simp
          clear hss hq
          go_wp2
          go_roundw
          case rel => exact ⟨k + 1, by omega, by go_num, by rw [Hss.out]; exact ho, hs, hbel⟩
          case measure => simp [intOf]; omega
        · rw [hq] at hss ha
          have Hss := Lib.hid hss
          clear hss hq
          go_wp2_with (at_builtin; refine wpList_pushI rfl (.tmp 34) (.tmp 36) rfl (w.heap.size + 1) (.slice A' m c') (sel (preIs f zs) k) rfl (ho.alloc _) wr.heap.size 1 k rfl ((Blk.new _ _ _).cell 0) (by rw [← Hm.out]; omega) (by simp; omega) (wr.heap.size + 1) (by simp) ?_; intro g' cap w4 ho' hgr hg' hlt')
          go_roundw
          case rel => exact ⟨k + 1, by omega, by go_num, by rw [Hss.out]; simpa [Hm.out] using ho', (hs.alloc _).grown hgr (ho.ne (by omega)), (ho.alloc _).bel (hbel.alloc hsz _) hgr (by omega) (by simp; omega)⟩
          case measure => simp [intOf]; omega
      · obtain rfl : k = f.p.toNat := by omega
        have Ho := Lib.hid (ho.mono (B' := w.heap.size) (by omega))
        clear ho
        go_wp2
        go_ret2
        exact ⟨_, by rw [Hc.out] <;> rfl, by rw [Hr.out]; exact Ho.out, hbel⟩
  · have Hr := Lib.hid (preR_bad hc)
    have hcb : (codeSet f zs != 0) = true := by simp [hc]
    clear hc
    go_enter Tryz.func22, Tryz.ntmps22
    go_wp2_with fail
    refine (l01Set_any f A n c zs _ (HX.out _ (by (repeat (first | with_reducible assumption | with_reducible exact Below.refl _ _ | with_reducible refine Below.setCell ?_ (by first | omega | (simp <;> omega)) _ | with_reducible refine Below.alloc ?_ (by first | omega | (simp <;> omega)) _ | with_reducible refine Below.drew ?_ | with_reducible refine Below.drewN ?_ _)))) Hn.out hb).mono ?_
    rintro e w1 ⟨rfl, hb1⟩
    have hbel : Below w.heap.size w w1 := Below.trans (by (repeat (first | with_reducible assumption | with_reducible exact Below.refl _ _ | with_reducible refine Below.setCell ?_ (by first | omega | (simp <;> omega)) _ | with_reducible refine Below.alloc ?_ (by first | omega | (simp <;> omega)) _ | with_reducible refine Below.drew ?_ | with_reducible refine Below.drewN ?_ _))) (hb1.mono (by simp <;> omega))
    clear hb1
    go_wp2
    go_ret2
    exact ⟨_, rfl, by rw [Hr.out]; exact OwI.nil_, hbel⟩
end Go.Proofs.YtahamedecibmnaaGreat

namespace Go.Proofs.YtahamedecibmnaaGreat
open Go.RowKit
def dd : List Int → List Int
  | [] => []
  | [x] => [x]
  | x :: y :: r => if x = y then dd (y :: r) else x :: dd (y :: r)
theorem dd_mem {z : Int} : ∀ l : List Int, z ∈ dd l ↔ z ∈ l
  | [] => Iff.rfl
  | [x] => Iff.rfl
  | x :: y :: r => by
    rw [dd]
    split
    · rename_i h
      rw [dd_mem (y :: r), h]
      simp
    · rw [List.mem_cons, dd_mem (y :: r)]; simp
theorem dd_strict : ∀ {l : List Int}, l.Pairwise (· ≤ ·) → (dd l).Pairwise (· < ·)
  | [], _ => List.Pairwise.nil
  | [x], _ => by simp [dd]
  | x :: y :: r, h => by
    have h2 := List.pairwise_cons.1 h
    rw [dd]
    split
    · exact dd_strict h2.2
    · rename_i hne
      refine List.pairwise_cons.2 ⟨fun z hz => ?_, dd_strict h2.2⟩
      rw [dd_mem] at hz
      have h3 := h2.1 y (by simp)
      have h4 : y ≤ z := by
        rcases List.mem_cons.1 hz with rfl | hz
        · exact Int.le_refl _
        · exact (List.pairwise_cons.1 h2.2).1 z hz
      omega
theorem strict_ext : ∀ {a b : List Int}, a.Pairwise (· < ·) → b.Pairwise (· < ·) → (∀ z, z ∈ a ↔ z ∈ b) → a = b
  | [], [], _, _, _ => rfl
  | [], y :: b, _, _, h => by have := (h y).2 (by simp); simp at this
  | x :: a, [], _, _, h => by have := (h x).1 (by simp); simp at this
  | x :: a, y :: b, ha, hb, h => by
    have ha2 := List.pairwise_cons.1 ha
    have hb2 := List.pairwise_cons.1 hb
    have hxy : x = y := by
      have h1 := (h x).1 (by simp)
      have h2 := (h y).2 (by simp)
      rcases List.mem_cons.1 h1 with e | h1
      · exact e
      · rcases List.mem_cons.1 h2 with e | h2
        · exact e.symm
        · have := hb2.1 x h1; have := ha2.1 y h2; omega
    subst hxy
    rw [strict_ext ha2.2 hb2.2 fun z => ?_]
    constructor
    · intro hz
      rcases List.mem_cons.1 ((h z).1 (List.mem_cons_of_mem _ hz)) with e | h1
      · have := ha2.1 z hz; omega
      · exact h1
    · intro hz
      rcases List.mem_cons.1 ((h z).2 (List.mem_cons_of_mem _ hz)) with e | h1
      · have := hb2.1 z hz; omega
      · exact h1
theorem dd_snoc (x : Int) : ∀ {l : List Int}, l ≠ [] → dd (l ++ [x]) = if l.getLast? = some x then dd l else dd l ++ [x]
  | [], h => absurd rfl h
  | [y], _ => by
    simp only [List.cons_append, List.nil_append, dd, List.getLast?_singleton, Option.some.injEq]
    split <;> simp_all
  | y :: z :: r, _ => by
    have ih := dd_snoc x (l := z :: r) (by simp)
    simp only [List.cons_append] at ih ⊢
    rw [dd, dd, ih]
    have hl : (y :: z :: r).getLast? = (z :: r).getLast? := by simp [List.getLast?_cons_cons]
    rw [hl]
    split <;> split <;> simp
end Go.Proofs.YtahamedecibmnaaGreat

namespace Go.Proofs.YtahamedecibmnaaGreat
open Go.RowKit
set_option maxRecDepth 100000
theorem last_take {zs : List Int} {k : Nat} (h0 : 0 < k) (hk : k ≤ zs.length) : (zs.take k).getLast? = some (gi zs (k - 1)) := by
  rw [List.getLast?_eq_getElem?, List.length_take, Nat.min_eq_left hk, List.getElem?_take, if_pos (by omega), List.getElem?_eq_getElem (by omega), gi_eq (by omega)]
theorem dd_take {zs : List Int} {k : Nat} (h0 : 0 < k) (hk : k < zs.length) : dd (zs.take (k + 1)) = if gi zs (k - 1) = gi zs k then dd (zs.take k) else dd (zs.take k) ++ [gi zs k] := by
  have e : zs.take (k + 1) = zs.take k ++ [gi zs k] := by
    rw [List.take_add_one, List.getElem?_eq_getElem hk, gi_eq hk]; rfl
  rw [e, dd_snoc _ (by intro h; have h' := congrArg List.length h; rw [List.length_take, List.length_nil] at h'; omega), last_take h0 (by omega)]
  simp
theorem compact_any (g n c B : Nat) (zs : List Int) (w : World) (ho : OwI 2 w B (.slice (some ⟨g, 0, none⟩) n c) zs) (hb : n < 1073741824) :
    Calls Tryz.prog 72 #[.slice (some ⟨g, 0, none⟩) n c] w fun e w' => ∃ v, e = .returned v ∧ OwI 2 w' B v (dd zs) ∧ Below B w w' := by
  have hcap := ho.cap
  have Hn := Lib.hid hcap.1
  have hnc := hcap.2
  clear hcap
  by_cases h2 : n < 2
  · have Hr : Hid (dd zs = zs) := by
      have := Hn.out
      match zs, this with
      | [], _ => rfl
      | [_], _ => rfl
      | _ :: _ :: _, h => simp at h; omega
    go_enter Tryz.func72, Tryz.ntmps72
    go_wp2
    go_ret
    exact ⟨_, rfl, by rw [Hr.out]; exact ho, Below.refl _ _⟩
  · go_enter Tryz.func72, Tryz.ntmps72
    go_wp2_with fail
    go_loopw [3] (fun i wr => ∃ k : Nat, 1 ≤ k ∧ k ≤ n ∧ i = .int .i64 k ∧ Hid (dd (zs.take k) = zs.take k) ∧ OwI 2 wr B (.slice (some ⟨g, 0, none⟩) n c) zs ∧ Below B w wr) (fun i _ => n - (intOf i).toNat)
    case atStart =>
      refine ⟨1, by omega, by omega, rfl, ?_, ho, Below.refl _ _⟩
      show _ = _
      match zs, Hn.out with
      | [], _ => rfl
      | _ :: _, _ => rfl
    case round =>
      clear ho
      obtain ⟨k, hk1, hk, rfl, hd, ho, hbel⟩ := hrel
      by_cases hlt : k < n
      · obtain ⟨c1, _⟩ := ho.spotD (k := k) (by rw [Hn.out]; exact hlt)
        obtain ⟨c2, _⟩ := ho.spotD (k := k - 1) (by rw [Hn.out]; omega)
        have hwk : IntKind.i64.wrap ((k : Int) - 1) = ((k - 1 : Nat) : Int) := by rw [IntWalk.i64_in _ ⟨by omega, by omega⟩]; omega
        have i0 : (0 : Int) ≤ (k : Int) := by omega
        have i1 : (k : Int) < (n : Int) := by omega
        have i2 : (0 : Int) ≤ ((k - 1 : Nat) : Int) := by omega
        have i3 : ((k - 1 : Nat) : Int) < (n : Int) := by omega
        have hdt := dd_take (zs := zs) (k := k) (by omega) (by rw [Hn.out]; exact hlt)
        have Hdt := Lib.hid hdt
        clear hdt
        by_cases he : gi zs (k - 1) = gi zs k
        · have heb : (gi zs k == gi zs (k - 1)) = true := by rw [he]; simp
          have Hx : Hid (dd (zs.take (k + 1)) = zs.take k) := by show _ = _; rw [Hdt.out, if_pos he, hd.out]
          clear he
          go_wp2_with fail
          go_quiet (fail)
          have ho2 := ho.drewN nq
          have hbel2 := hbel.drewN nq
          generalize wr.drewN nq = w2 at ho2 hbel2 ⊢
          clear ho hbel c1 c2
          go_wp2_with fail
          go_loopw [3, 5] (fun i j wq => ∃ (a m : Nat) (rs : List Int), i = .int .i64 a ∧ j = .int .i64 m ∧ 1 ≤ m ∧ m ≤ n - k ∧ a < k + m ∧ 1 ≤ a ∧ Hid (rs.length = n ∧ rs.take a = dd (zs.take (k + m)) ∧ ∀ t, k + m - 1 ≤ t → t < n → gi rs t = gi zs t) ∧ OwI 2 wq B (.slice (some ⟨g, 0, none⟩) n c) rs ∧ Below B w wq) (fun _ j _ => n - (intOf j).toNat)
          case atStart => exact ⟨k, 1, zs, rfl, rfl, by omega, by omega, by omega, by omega, ⟨Hn.out, Hx.out.symm, fun _ _ _ => rfl⟩, ho2, hbel2⟩
          case round =>
            clear ho2 hbel2
            obtain ⟨a, m, rs, rfl, rfl, hm1, hmn, ham, ha1, Hy, hor, hbel⟩ := hrel
            by_cases hlm : m < n - k
            · obtain ⟨c1, _⟩ := hor.spotD (k := k + m) (by rw [Hy.out.1]; omega)
              obtain ⟨c2, _⟩ := hor.spotD (k := k + (m - 1)) (by rw [Hy.out.1]; omega)
              rw [Hy.out.2.2 (k + m) (by omega) (by omega)] at c1
              rw [Hy.out.2.2 (k + (m - 1)) (by omega) (by omega)] at c2
              have hwm : IntKind.i64.wrap ((m : Int) - 1) = ((m - 1 : Nat) : Int) := by rw [IntWalk.i64_in _ ⟨by omega, by omega⟩]; omega
              have j0 : (0 : Int) ≤ (m : Int) := by omega
              have j1 : (m : Int) < ((n - k : Nat) : Int) := by omega
              have j2 : (0 : Int) ≤ ((m - 1 : Nat) : Int) := by omega
              have j3 : ((m - 1 : Nat) : Int) < ((n - k : Nat) : Int) := by omega
              have hdm := dd_take (zs := zs) (k := k + m) (by omega) (by rw [Hn.out]; omega)
              rw [show k + m - 1 = k + (m - 1) by omega] at hdm
              have Hdm := Lib.hid hdm
              clear hdm
              by_cases he2 : gi zs (k + (m - 1)) = gi zs (k + m)
              · have heb2 : (gi zs (k + m) != gi zs (k + (m - 1))) = false := by rw [he2]; simp
                have Hz : Hid (rs.length = n ∧ rs.take a = dd (zs.take (k + (m + 1))) ∧ ∀ t, k + (m + 1) - 1 ≤ t → t < n → gi rs t = gi zs t) :=
                  ⟨Hy.out.1, by rw [← Nat.add_assoc, Hdm.out, if_pos he2]; exact Hy.out.2.1, fun t h1 h2 => Hy.out.2.2 t (by omega) h2⟩
                clear he2
                go_wp2_with fail
                go_quiet (fail)
                go_wp2
                go_roundw
                case rel => exact ⟨a, m + 1, rs, rfl, by go_num, by omega, by omega, by omega, ha1, Hz, hor.drewN _, hbel.drewN _⟩
                case measure => simp [intOf]; omega
              · have heb2 : (gi zs (k + m) != gi zs (k + (m - 1))) = true := by simpa using fun h => he2 h.symm
                obtain ⟨c3, z3, hgl, hBg, hst⟩ := hor.spotD (k := a) (by rw [Hy.out.1]; omega)
                have Hz : Hid ((rs.set a (gi zs (k + m))).length = n ∧ (rs.set a (gi zs (k + m))).take (a + 1) = dd (zs.take (k + (m + 1))) ∧ ∀ t, k + (m + 1) - 1 ≤ t → t < n → gi (rs.set a (gi zs (k + m))) t = gi zs t) := by
                  refine ⟨by simp [Hy.out.1], ?_, fun t h1 h2 => ?_⟩
                  · rw [← Nat.add_assoc, Hdm.out, if_neg he2, ← Hy.out.2.1, List.take_add_one, List.take_set_of_le (Nat.le_refl _)]
                    simp [show a < rs.length by rw [Hy.out.1]; omega]
                  · rw [← Hy.out.2.2 t (by omega) h2]
                    unfold gi
                    simp [List.getD, show ¬ a = t by omega]
                have Hst := Lib.hid (fun nq => (hor.drewN nq).spotD (k := a) (by rw [Hy.out.1]; omega))
                have k0 : (0 : Int) ≤ (a : Int) := by omega
                have k1 : (a : Int) < (n : Int) := by omega
                clear he2 hst
                go_wp2_with fail
                go_quiet (fail)
                go_wp2
                go_roundw
                case rel => exact ⟨a + 1, m + 1, _, by go_num, by go_num, by omega, by omega, by omega, by omega, Hz, (Hst.out _).2.2.2.2 _, (hbel.drewN _).setCell hBg _⟩
                case measure => simp [intOf]; omega
            · obtain rfl : m = n - k := by omega
              have Hres : Hid (dd zs = rs.take a) := by
                show _ = _
                rw [Hy.out.2.1, show k + (n - k) = n by omega, ← Hn.out, List.take_length]
              obtain ⟨w9, hcl, ho9, hb9⟩ := clearI hor Hy.out.1 (a := a) (by omega) 0 (c - a)
              have hbel9 := hbel.trans hb9
              have k0 : (0 : Int) ≤ (a : Int) := by omega
              have k1 : (a : Int) < (n : Int) := by omega
              clear hb9 hor hbel
              go_wp2
              go_ret
              exact ⟨_, rfl, by rw [Hres.out]; exact ho9, hbel9⟩
        · have heb : (gi zs k == gi zs (k - 1)) = false := by rw [beq_eq_false_iff_ne]; exact fun h => he h.symm
          have Hx : Hid (dd (zs.take (k + 1)) = zs.take (k + 1)) := by
            show _ = _
            rw [Hdt.out, if_neg he, hd.out, List.take_add_one, List.getElem?_eq_getElem (by rw [Hn.out]; exact hlt), gi_eq (by rw [Hn.out]; exact hlt)]; rfl
          clear he
          go_wp2_with fail
          go_quiet (fail)
          go_wp2
          go_roundw
          case rel => exact ⟨k + 1, by omega, by omega, by go_num, Hx, ho.drewN _, hbel.drewN _⟩
          case measure => simp [intOf]; omega
      · obtain rfl : k = n := by omega
        have Hr : Hid (dd zs = zs) := by
          have := hd.out
          rwa [← Hn.out, List.take_length] at this
        go_wp2
        go_ret
        exact ⟨_, rfl, by rw [Hr.out]; exact ho, hbel⟩
end Go.Proofs.YtahamedecibmnaaGreat

namespace Go.Proofs.YtahamedecibmnaaGreat
open Go.RowKit
set_option maxRecDepth 100000
def led (f : M) (zs : List Int) : List Int := zs.map fun z => f.at z.toNat
theorem led_length (f : M) (zs : List Int) : (led f zs).length = zs.length := by simp [led]
theorem led_snoc {f : M} {zs : List Int} {k : Nat} (hk : k < zs.length) : led f (zs.take (k + 1)) = led f (zs.take k) ++ [f.at (gi zs k).toNat] := by
  rw [List.take_add_one, List.getElem?_eq_getElem hk, led, led, gi_eq hk, List.map_append]; rfl
def imQ (f : M) (zs : List Int) (z : Int) : Bool := decide (z ∈ led f zs)
theorem ups_strict : ∀ n, (ups n).Pairwise (· < ·)
  | 0 => List.Pairwise.nil
  | n + 1 => by
    rw [ups_succ, List.pairwise_append]
    refine ⟨ups_strict n, by simp, fun a ha b hb => ?_⟩
    obtain ⟨k, hk, rfl⟩ := ups_mem ha
    simp at hb; omega
theorem sel_strict (q : Int → Bool) (n : Nat) : (sel q n).Pairwise (· < ·) := (ups_strict n).filter q
theorem sel_mem {q : Int → Bool} {n : Nat} {z : Int} : z ∈ sel q n ↔ (∃ k : Nat, k < n ∧ z = k) ∧ q z = true := by
  rw [sel, List.mem_filter]
  constructor
  · rintro ⟨h1, h2⟩; exact ⟨ups_mem h1, h2⟩
  · rintro ⟨⟨k, hk, rfl⟩, h2⟩; exact ⟨by simp [ups]; exact ⟨k, hk, rfl⟩, h2⟩
theorem sorted_pair {cs : List Int} (h : SortedTo cs cs.length) : cs.Pairwise (· ≤ ·) := by
  rw [List.pairwise_iff_getElem]
  intro i j hi hj hij
  have := h i j hij hj
  rwa [gi_eq hi, gi_eq hj] at this
theorem dd_img {f : M} {zs cs : List Int} {N : Nat} (hp : cs.Perm (led f zs)) (hs : SortedTo cs cs.length) (hbd : ∀ z, z ∈ led f zs → 0 ≤ z ∧ z < N) : dd cs = sel (imQ f zs) N := by
  refine strict_ext (dd_strict (sorted_pair hs)) (sel_strict _ _) fun z => ?_
  rw [dd_mem, sel_mem, hp.mem_iff]
  constructor
  · intro h
    have := hbd z h
    exact ⟨⟨z.toNat, by omega, by omega⟩, by simp [imQ, h]⟩
  · rintro ⟨_, h⟩; simpa [imQ] using h
theorem compact_nil (w : World) : Calls Tryz.prog 72 #[.slice none 0 0] w fun e w' => e = .returned (.slice none 0 0) ∧ w = w' := by
  go_enter Tryz.func72, Tryz.ntmps72
  go_wp2
  go_ret
  exact ⟨rfl, rfl⟩
theorem compact_all (v : Value) (B : Nat) (zs : List Int) (w : World) (ho : OwI 2 w B v zs) (hb : zs.length < 1073741824) :
    Calls Tryz.prog 72 #[v] w fun e w' => ∃ v', e = .returned v' ∧ OwI 2 w' B v' (dd zs) ∧ Below B w w' := by
  rcases ho.2 with ⟨rfl, h0⟩ | ⟨g, cap, cur, rfl, _⟩
  · obtain rfl : zs = [] := List.eq_nil_of_length_eq_zero h0
    refine (compact_nil w).mono ?_
    rintro e w' ⟨rfl, rfl⟩
    exact ⟨_, rfl, ho, Below.refl _ _⟩
  · exact compact_any g zs.length cap B zs w ho hb
theorem image_any (f : M) (A : Option Addr) (n c : Nat) (zs : List Int) (w : World) (hv : Valid f) (hx : RdI w w.heap.size A zs) (hn : zs.length = n) (hb : n ≤ 12) (hbd : ∀ j, j < zs.length → 0 ≤ gi zs j ∧ gi zs j < f.p) :
    Calls Tryz.prog 45 #[.agg (mc f), .slice A n c] w fun e w' => ∃ v, e = .returned v ∧ OwI 2 w' w.heap.size v (sel (imQ f zs) 5) ∧ Below w.heap.size w w' := by
  have hp1 := hv.p1
  have hp5 := hv.p5
  have Hn := Lib.hid hn
  have Hx := Lib.hid hx
  have Hd := Lib.hid hbd
  clear hn hx hbd
  have HX : Hid (∀ w', Below w.heap.size w w' → RdI w' w.heap.size A zs) := fun w' hb => Hx.out.below hb
  go_enter Tryz.func45, Tryz.ntmps45
  go_wp2
  go_loopw [5, 10] (fun v i wr => ∃ k : Nat, k ≤ n ∧ i = .int .i64 k ∧ OwI 2 wr (w.heap.size + 1) v (led f (zs.take k)) ∧ Six wr w.heap.size f ∧ Below w.heap.size w wr) (fun _ i _ => n - (intOf i).toNat)
  case atStart => exact ⟨0, by omega, rfl, OwI.nil_, Blk.six (Blk.new _ _ _), by (repeat (first | with_reducible assumption | with_reducible exact Below.refl _ _ | with_reducible refine Below.setCell ?_ (by first | omega | (simp <;> omega)) _ | with_reducible refine Below.alloc ?_ (by first | omega | (simp <;> omega)) _ | with_reducible refine Below.drew ?_ | with_reducible refine Below.drewN ?_ _))⟩
  case round =>
    obtain ⟨k, hk, rfl, ho, hs, hbel⟩ := hrel
    obtain ⟨S, d, hv', _⟩ := ho.form
    have hlen : (led f (zs.take k)).length = k := by rw [led_length, List.length_take, Hn.out]; omega
    rw [hlen] at hv'
    subst hv'
    have Hlen := Lib.hid hlen
    have hsz := hbel.size
    have hsl := hs.lt
    clear hlen
    by_cases hlt : k < n
    · obtain ⟨b, off, rfl, hbb, c1⟩ := RdI.at_ (HX.out _ hbel) (k := k) (by rw [Hn.out]; exact hlt)
      obtain ⟨b1, b2⟩ := Hd.out k (by rw [Hn.out]; exact hlt)
      have c2 := six_at hs (gi zs k).toNat (by omega)
      have hb5 : gi zs k < 5 := by omega
      have Hls := Lib.hid (led_snoc (f := f) (zs := zs) (k := k) (by rw [Hn.out]; exact hlt))
      go_wp2_with (at_builtin; refine wpList_pushI rfl (.tmp 14) (.tmp 19) rfl (w.heap.size + 1) (.slice S k d) (led f (zs.take k)) rfl (ho.alloc _) wr.heap.size 1 (f.at (gi zs k).toNat) rfl ((Blk.new _ _ _).cell 0) (by rw [Hlen.out]; omega) (by simp; omega) (wr.heap.size + 1) (by simp) ?_; intro g' cap w4 ho' hgr hg' hlt')
      go_roundw
      case rel => exact ⟨k + 1, by omega, by go_num, by rw [Hls.out]; simpa [Hlen.out] using ho', (hs.alloc _).grown hgr (ho.ne (by omega)), (ho.alloc _).bel (hbel.alloc hsz _) hgr (by omega) (by simp; omega)⟩
      case measure => simp [intOf]; omega
    · obtain rfl : k = n := by omega
      have e : zs.take k = zs := by rw [← Hn.out, List.take_length]
      rw [e] at ho Hlen
      clear e
      go_wp2_with fail
      refine (sortI_any _ (w.heap.size + 1) (led f zs) _ ho (by rw [Hlen.out]; omega)).mono ?_
      rintro e w2 ⟨rfl, cs, hp, hsd, ho2, hg⟩
      have hcl : cs.length = k := by rw [hp.length_eq, Hlen.out]
      have Hdd : Hid (dd cs = sel (imQ f zs) 5) := dd_img hp (by rw [hp.length_eq]; exact hsd) (by
        intro z hz
        simp [led] at hz
        obtain ⟨y, hy, rfl⟩ := hz
        obtain ⟨j, hj, e⟩ := List.getElem_of_mem hy
        have := Hd.out j hj
        rw [gi_eq hj, e] at this
        have h1 := hv.lo y.toNat (by omega) (by omega)
        have h2 := hv.hi y.toNat (by omega) (by omega)
        omega)
      have hbel2 := ho.bel hbel hg (by omega) (by omega)
      have hcl2 : cs.length < 1073741824 := by omega
      clear hp hsd hg ho hcl
      go_wp2_with fail
      refine (compact_all _ (w.heap.size + 1) cs _ ho2 hcl2).mono ?_
      rintro e w3 ⟨v', rfl, ho3, hb3⟩
      rw [Hdd.out] at ho3
      have Ho := Lib.hid (ho3.mono (B' := w.heap.size) (by omega))
      have hbel3 := hbel2.trans (hb3.mono (by omega))
      clear ho2 ho3 hb3 hbel2
      go_wp2
      go_ret
      exact ⟨_, rfl, Ho.out, hbel3⟩
def mv (f : M) (m : Nat) : Nat → Nat
  | 0 => 0
  | k + 1 => if m.testBit k then mv f m k ||| 2 ^ (f.at k).toNat else mv f m k
theorem mv_lt {f : M} (hf : Valid f) (m : Nat) : ∀ k : Nat, (k : Int) ≤ f.p → mv f m k < 32
  | 0, _ => by simp [mv]
  | k + 1, h => by
    have h5 := hf.p5
    have b1 := hf.lo k (by omega) (by omega)
    have b2 := hf.hi k (by omega) (by omega)
    rw [mv]
    split
    · exact (or_run (mv_lt hf m k (by omega)) (a := (f.at k).toNat) (by omega)).2
    · exact mv_lt hf m k (by omega)
theorem mv_bit (f : M) (m j : Nat) : ∀ k, (mv f m k).testBit j = true ↔ ∃ i, i < k ∧ m.testBit i = true ∧ (f.at i).toNat = j
  | 0 => by simp [mv]
  | k + 1 => by
    have ih := mv_bit f m j k
    rw [mv]
    by_cases hb : m.testBit k = true
    · rw [if_pos hb, Nat.testBit_or, Bool.or_eq_true, ih, Nat.testBit_two_pow, decide_eq_true_eq]
      constructor
      · rintro (⟨i, hi, h1, e⟩ | e)
        · exact ⟨i, by omega, h1, e⟩
        · exact ⟨k, by omega, hb, e⟩
      · rintro ⟨i, hi, h1, e⟩
        by_cases h : i = k
        · subst h; exact .inr e
        · exact .inl ⟨i, by omega, h1, e⟩
    · rw [if_neg hb, ih]
      constructor
      · rintro ⟨i, hi, h1, e⟩; exact ⟨i, by omega, h1, e⟩
      · rintro ⟨i, hi, h1, e⟩
        by_cases h : i = k
        · subst h; exact absurd h1 hb
        · exact ⟨i, by omega, h1, e⟩
theorem l01Moved_any (f : M) (m : Nat) (w : World) (hf : Valid f) (hm : m < 32) :
    Calls Tryz.prog 48 #[.agg (mc f), I m] w fun e w' => e = .returned (I (mv f m f.p.toNat)) ∧ Below w.heap.size w w' := by
  have hp1 := hf.p1
  have hp5 := hf.p5
  go_enter Tryz.func48, Tryz.ntmps48
  go_wp2
  go_loopw [5, 6] (fun s i wr => ∃ k : Nat, (k : Int) ≤ f.p ∧ s = I (mv f m k) ∧ i = .int .i64 k ∧ Blk wr w.heap.size 26 (mc f) ∧ Below w.heap.size w wr) (fun _ i _ => 5 - (intOf i).toNat)
  case atStart => exact ⟨0, by omega, rfl, rfl, Blk.new _ _ _, by (repeat (first | with_reducible assumption | with_reducible exact Below.refl _ _ | with_reducible refine Below.setCell ?_ (by first | omega | (simp <;> omega)) _ | with_reducible refine Below.alloc ?_ (by first | omega | (simp <;> omega)) _ | with_reducible refine Below.drew ?_ | with_reducible refine Below.drewN ?_ _))⟩
  case round =>
    obtain ⟨k, hk, rfl, rfl, hB, hbel⟩ := hrel
    have c0 : wr.cell? ⟨w.heap.size, 0, none⟩ = some (I f.p) := hB.cell 0
    by_cases hlt : (k : Int) < f.p
    · have c1 := hB.at_ (k := k) (by omega)
      have b1 := hf.lo k (by omega) hlt
      have b2 := hf.hi k (by omega) hlt
      have ha := and_run (k := k) hm (by omega)
      have ho := (or_run (mv_lt hf m k hk) (a := (f.at k).toNat) (by omega)).1
      have Hi : Hid (mv f m (k + 1) = if m.testBit k then mv f m k ||| 2 ^ (f.at k).toNat else mv f m k) := rfl
      cases hq : m.testBit k
      · rw [hq] at ha
        have Hj : Hid (mv f m (k + 1) = mv f m k) := by show _ = _; rw [Hi.out, hq]; rfl
        clear hq
        go_wp2
        go_roundw
        case rel => exact ⟨k + 1, by omega, by rw [Hj.out], by go_num, hB, hbel⟩
        case measure => simp [intOf]; omega
      · rw [hq] at ha
        have Hj : Hid (mv f m (k + 1) = mv f m k ||| 2 ^ (f.at k).toNat) := by show _ = _; rw [Hi.out, hq]; rfl
        clear hq
        go_wp2
        go_roundw
        case rel => exact ⟨k + 1, by omega, by rw [Hj.out], by go_num, hB, hbel⟩
        case measure => simp [intOf]; omega
    · obtain rfl : k = f.p.toNat := by omega
      go_wp2
      go_ret
      exact ⟨rfl, hbel⟩
end Go.Proofs.YtahamedecibmnaaGreat

namespace Go.Proofs.YtahamedecibmnaaGreat
open Go.RowKit
set_option maxRecDepth 100000
theorem set_up {p : Int} {zs : List Int} (hs : isSetB p zs = true) : ∀ j, j < zs.length → (j : Int) ≤ gi zs j ∧ gi zs j < p := by
  intro j
  induction j with
  | zero =>
    intro hj
    have := isSetB_iff.1 hs 0 hj
    unfold okAt at this
    rw [Bool.and_eq_true] at this
    have := inR_true.1 this.1
    omega
  | succ j ih =>
    intro hj
    have h := isSetB_iff.1 hs (j + 1) hj
    unfold okAt at h
    rw [Bool.and_eq_true, Bool.or_eq_true] at h
    have h1 := inR_true.1 h.1
    have h2 := ih (by omega)
    have h3 : gi zs j < gi zs (j + 1) := by
      rcases h.2 with h | h
      · simp at h
      · simpa using h
    omega
theorem set_len {f : M} {zs : List Int} (hv : Valid f) (hs : isSetB f.p zs = true) : zs.length ≤ 5 := by
  have h5 := hv.p5
  rcases Nat.lt_or_ge 5 zs.length with h | h
  · have := set_up hs 5 h; omega
  · exact h
theorem img_pts {f : M} {zs : List Int} (hv : Valid f) (hs : isSetB f.p zs = true) : pts (mv f (bmTo zs zs.length) f.p.toNat) = sel (imQ f zs) 5 := by
  have h5 := hv.p5
  have hlt := mv_lt hv (bmTo zs zs.length) f.p.toNat (by have := hv.p1; omega)
  rw [pts, sel_far (n := 5) (by omega) fun k h1 _ => bit_far hlt h1]
  refine sel_ext fun k hk => ?_
  rw [Bool.eq_iff_iff, bq_nat, mv_bit, imQ, decide_eq_true_eq, led, List.mem_map]
  constructor
  · rintro ⟨i, hi, hb, e⟩
    rw [bmTo_bit] at hb
    obtain ⟨j, hj, ej⟩ := hb
    have hu := set_up hs j hj
    have b1 := hv.lo i (by omega) (by omega)
    exact ⟨gi zs j, gi_mem hj, by rw [ej]; omega⟩
  · rintro ⟨z, hz, e⟩
    obtain ⟨j, hj, ej⟩ := List.getElem_of_mem hz
    have hu := set_up hs j hj
    rw [gi_eq hj, ej] at hu
    refine ⟨z.toNat, by omega, ?_, by rw [e]; simp⟩
    rw [bmTo_bit]
    exact ⟨j, hj, by rw [gi_eq hj, ej]⟩
def imgSR (f : M) (zs : List Int) : List Int := if codeSet f zs = 0 then sel (imQ f zs) 5 else []
theorem imgSR_bad {f : M} {zs : List Int} (h : codeSet f zs ≠ 0) : imgSR f zs = [] := by simp [imgSR, h]
theorem imgSR_good {f : M} {zs : List Int} (h : codeSet f zs = 0) : imgSR f zs = sel (imQ f zs) 5 := by simp [imgSR, h]
theorem imgSR_len (f : M) (zs : List Int) : (imgSR f zs).length < 1073741824 := by
  by_cases h : codeSet f zs = 0
  · rw [imgSR_good h]; have := sel_length (imQ f zs) 5; omega
  · rw [imgSR_bad h]; simp
theorem ImplImg_any (f : M) (A : Option Addr) (n c : Nat) (zs : List Int) (w : World) (hx : RdI w w.heap.size A zs) (hn : zs.length = n) (hb : n < 1073741824) :
    Calls Tryz.prog 16 #[.agg (mc f), .slice A n c] w fun e w' => ∃ v, e = .returned (.tuple #[v, I (codeSet f zs)]) ∧ OwI 2 w' w.heap.size v (imgSR f zs) ∧ Below w.heap.size w w' := by
  have Hn := Lib.hid hn
  have Hx := Lib.hid hx
  clear hn hx
  have HX : Hid (∀ w', Below w.heap.size w w' → RdI w' w'.heap.size A zs) := fun w' hb => Rd.more (Hx.out.below hb) hb.size
  by_cases hc : codeSet f zs = 0
  · have Hr := Lib.hid (imgSR_good hc)
    have hv := (isMap_iff f).1 (codeSet_zero.1 hc).1
    have Hl := Lib.hid (set_len hv (codeSet_zero.1 hc).2)
    have Hu := Lib.hid (set_up (codeSet_zero.1 hc).2)
    have hcb : (codeSet f zs != 0) = false := by simp [hc]
    have Hc := Lib.hid hc
    clear hc
    go_enter Tryz.func16, Tryz.ntmps16
    go_wp2_with fail
    refine (setCode_any f A n c zs _ (HX.out _ (by (repeat (first | with_reducible assumption | with_reducible exact Below.refl _ _ | with_reducible refine Below.setCell ?_ (by first | omega | (simp <;> omega)) _ | with_reducible refine Below.alloc ?_ (by first | omega | (simp <;> omega)) _ | with_reducible refine Below.drew ?_ | with_reducible refine Below.drewN ?_ _)))) Hn.out hb).mono ?_
    rintro e w1 ⟨rfl, hb1⟩
    have hs : Six w1 w.heap.size f := Six.below (Blk.six (Blk.new w _ _)) hb1 (by simp <;> omega)
    have hbel : Below w.heap.size w w1 := Below.trans (by (repeat (first | with_reducible assumption | with_reducible exact Below.refl _ _ | with_reducible refine Below.setCell ?_ (by first | omega | (simp <;> omega)) _ | with_reducible refine Below.alloc ?_ (by first | omega | (simp <;> omega)) _ | with_reducible refine Below.drew ?_ | with_reducible refine Below.drewN ?_ _))) (hb1.mono (by simp <;> omega))
    clear hb1
    go_wp2_with fail
    refine (image_any f A n c zs _ hv (HX.out _ hbel) Hn.out (by have := Hl.out; rw [Hn.out] at this; omega) (fun j hj => by have := Hu.out j hj; omega)).mono ?_
    rintro e w2 ⟨v, rfl, ho, hb2⟩
    have Ho := Lib.hid (ho.mono hbel.size)
    replace hbel := hbel.trans (hb2.mono hbel.size)
    clear hb2 ho
    go_wp2
    go_ret2
    exact ⟨_, by rw [Hc.out] <;> rfl, by rw [Hr.out]; exact Ho.out, hbel⟩
  · have Hr := Lib.hid (imgSR_bad hc)
    have hcb : (codeSet f zs != 0) = true := by simp [hc]
    clear hc
    go_enter Tryz.func16, Tryz.ntmps16
    go_wp2_with fail
    refine (setCode_any f A n c zs _ (HX.out _ (by (repeat (first | with_reducible assumption | with_reducible exact Below.refl _ _ | with_reducible refine Below.setCell ?_ (by first | omega | (simp <;> omega)) _ | with_reducible refine Below.alloc ?_ (by first | omega | (simp <;> omega)) _ | with_reducible refine Below.drew ?_ | with_reducible refine Below.drewN ?_ _)))) Hn.out hb).mono ?_
    rintro e w1 ⟨rfl, hb1⟩
    have hbel : Below w.heap.size w w1 := Below.trans (by (repeat (first | with_reducible assumption | with_reducible exact Below.refl _ _ | with_reducible refine Below.setCell ?_ (by first | omega | (simp <;> omega)) _ | with_reducible refine Below.alloc ?_ (by first | omega | (simp <;> omega)) _ | with_reducible refine Below.drew ?_ | with_reducible refine Below.drewN ?_ _))) (hb1.mono (by simp <;> omega))
    clear hb1
    go_wp2
    go_ret2
    exact ⟨_, rfl, by rw [Hr.out]; exact OwI.nil_, hbel⟩
theorem bits_b (A : Option Addr) (n c : Nat) (zs : List Int) (w : World) (hx : RdI w w.heap.size A zs) (hn : zs.length = n) (hb : n < 1073741824) (hbd : ∀ j, j < zs.length → 0 ≤ gi zs j ∧ gi zs j < 5) :
    Calls Tryz.prog 49 #[.slice A n c] w fun e w' => e = .returned (I (bmTo zs n)) ∧ Below w.heap.size w w' :=
  (l01Bits_any A n c zs w hx hn hb hbd).mono fun _ _ h => ⟨h.1, h.2 ▸ Below.refl _ _⟩
theorem val_same {x0 x1 x2 x3 x5 x6 x7 x8 x9 x10 x11 x12 x13 x14 x15 x16 v v' : Value} {t : Nat} (h17 : t ≠ 17) (h4 : t ≠ 4) :
    (#[x0, x1, x2, x3, v', x5, x6, x7, x8, x9, x10, x11, x12, x13, x14, x15, x16, v'] : Array Value).getD t undef = (#[x0, x1, x2, x3, v, x5, x6, x7, x8, x9, x10, x11, x12, x13, x14, x15, x16, v] : Array Value).getD t undef := by
  have e : (#[x0, x1, x2, x3, v', x5, x6, x7, x8, x9, x10, x11, x12, x13, x14, x15, x16, v'] : Array Value) = ((#[x0, x1, x2, x3, v, x5, x6, x7, x8, x9, x10, x11, x12, x13, x14, x15, x16, v] : Array Value).setIfInBounds 17 v').setIfInBounds 4 v' := rfl
  rw [e]
  simp only [Array.getD_eq_getD_getElem?]
  rw [Array.getElem?_setIfInBounds_ne (Ne.symm h4), Array.getElem?_setIfInBounds_ne (Ne.symm h17)]
theorem SpecImg_any (f : M) (A : Option Addr) (n c : Nat) (zs : List Int) (w : World) (hx : RdI w w.heap.size A zs) (hn : zs.length = n) (hb : n < 1073741824) :
    Calls Tryz.prog 17 #[.agg (mc f), .slice A n c] w fun e w' => ∃ v, e = .returned (.tuple #[v, I (codeSet f zs)]) ∧ OwI 2 w' w.heap.size v (imgSR f zs) ∧ Below w.heap.size w w' := by
  have Hn := Lib.hid hn
  have Hx := Lib.hid hx
  clear hn hx
  have HX : Hid (∀ w', Below w.heap.size w w' → RdI w' w'.heap.size A zs) := fun w' hb => Rd.more (Hx.out.below hb) hb.size
  by_cases hc : codeSet f zs = 0
  · have hv := (isMap_iff f).1 (codeSet_zero.1 hc).1
    have Hd := Lib.hid (set_bd hv (codeSet_zero.1 hc).2)
    have Hr : Hid (imgSR f zs = pts (mv f (bmTo zs n) f.p.toNat)) := by
      have := img_pts hv (codeSet_zero.1 hc).2
      rw [Hn.out] at this
      exact (imgSR_good hc).trans this.symm
    have hm := bmTo_lt Hd.out n (by rw [Hn.out]; exact Nat.le_refl _)
    have hm2 := mv_lt hv (bmTo zs n) f.p.toNat (by have := hv.p1; omega)
    have hcb : (codeSet f zs != 0) = false := by simp [hc]
    have Hc := Lib.hid hc
    clear hc
    go_enter Tryz.func17, Tryz.ntmps17
    go_wp2_with fail
    refine (l01Set_any f A n c zs _ (HX.out _ (by (repeat (first | with_reducible assumption | with_reducible exact Below.refl _ _ | with_reducible refine Below.setCell ?_ (by first | omega | (simp <;> omega)) _ | with_reducible refine Below.alloc ?_ (by first | omega | (simp <;> omega)) _ | with_reducible refine Below.drew ?_ | with_reducible refine Below.drewN ?_ _)))) Hn.out hb).mono ?_
    rintro e w1 ⟨rfl, hb1⟩
    have hs : Six w1 w.heap.size f := Six.below (Blk.six (Blk.new w _ _)) hb1 (by simp <;> omega)
    have hbel : Below w.heap.size w w1 := Below.trans (by (repeat (first | with_reducible assumption | with_reducible exact Below.refl _ _ | with_reducible refine Below.setCell ?_ (by first | omega | (simp <;> omega)) _ | with_reducible refine Below.alloc ?_ (by first | omega | (simp <;> omega)) _ | with_reducible refine Below.drew ?_ | with_reducible refine Below.drewN ?_ _))) (hb1.mono (by simp <;> omega))
    have HS : Hid (Six w1.drew w.heap.size f ∧ Below w.heap.size w w1.drew) := ⟨hs, hbel.drew⟩
    clear hb1 hs hbel
    go_wp2_with fail
    refine wp_region_val [] rfl (by kernel_rfl) (by kernel_rfl) (by kernel_rfl) (fun w' => Six w' w.heap.size f ∧ Below w.heap.size w w') (fun v w' => OwI 2 w' w.heap.size v (pts (mv f (bmTo zs n) f.p.toNat))) _
      (fun v => [.agg (mc f), .slice A n c, I (bmTo zs n), I (mv f (bmTo zs n) f.p.toNat), v, v, I 0])
      (by intro v; simp only [putAll, List.setIfInBounds_toArray, List.set_cons_succ, List.set_cons_zero]; rfl) HS.out 4 _ rfl ?hpend ?hR ?hop ?hval ?hQ
    case hpend =>
      intro v v' t hne
      by_cases h17 : t = 17
      · subst h17; exact .inl rfl
      · by_cases h4 : t = 4
        · subst h4; exact .inr ⟨5, _, rfl, rfl, by decide, by kernel_rfl⟩
        · refine (hne ?_).elim
          exact val_same h17 h4
    case hR => intro v w' w'' h1 h2; exact OwI.below h1 h2 (Nat.le_refl _)
    case hop =>
      intro v
      refine ⟨.inr ?_, .inr ?_, .inr ?_, .inr ?_, .inl rfl, .inr ?_, .inr ?_, trivial⟩
      · (with_reducible refine Fix.of ?_ ?_; rfl; intro w' hS; have s0 := hS.1; unfold Oper.wp; go_simp; first | done | exact Below.refl _ _ | exact ⟨hS, Below.refl _ _⟩ | exact ⟨hS.2, Below.refl _ _⟩ | exact ⟨hS.1, Below.refl _ _⟩ | exact ⟨⟨hS.1⟩, Below.refl _ _⟩ | exact ⟨hS.1, hS.2, Below.refl _ _⟩)
      · (with_reducible refine Fix.of ?_ ?_; rfl; intro w' hS; have s0 := hS.1; unfold Oper.wp; go_simp; first | done | exact Below.refl _ _ | exact ⟨hS, Below.refl _ _⟩ | exact ⟨hS.2, Below.refl _ _⟩ | exact ⟨hS.1, Below.refl _ _⟩ | exact ⟨⟨hS.1⟩, Below.refl _ _⟩ | exact ⟨hS.1, hS.2, Below.refl _ _⟩)
      · (with_reducible refine Fix.of ?_ ?_; rfl; intro w' hS; have s3 := Lib.hid hS; unfold Oper.wp; clear hS; go_simp; refine (bits_b A n c zs _ (HX.out _ s3.out.2) Hn.out hb Hd.out).mono ?_; rintro e w1 ⟨rfl, hb⟩; exact ⟨rfl, ⟨s3.out.1.below hb s3.out.1.lt, s3.out.2.trans (hb.mono s3.out.2.size)⟩, hb⟩)
      · (with_reducible refine Fix.of ?_ ?_; rfl; intro w' hS; have s3 := Lib.hid hS; unfold Oper.wp; clear hS; go_simp; refine (l01Moved_any f (bmTo zs n) _ hv hm).mono ?_; rintro e w1 ⟨rfl, hb⟩; exact ⟨rfl, ⟨s3.out.1.below hb s3.out.1.lt, s3.out.2.trans (hb.mono s3.out.2.size)⟩, hb⟩)
      · (with_reducible refine Fix.of ?_ ?_; rfl; intro w' hS; have s0 := hS.1; unfold Oper.wp; go_simp; first | done | exact Below.refl _ _ | exact ⟨hS, Below.refl _ _⟩ | exact ⟨hS.2, Below.refl _ _⟩ | exact ⟨hS.1, Below.refl _ _⟩ | exact ⟨⟨hS.1⟩, Below.refl _ _⟩ | exact ⟨hS.1, hS.2, Below.refl _ _⟩)
      · (with_reducible refine Fix.of ?_ ?_; rfl; intro w' hS; have s0 := hS.1; unfold Oper.wp; go_simp; first | done | exact Below.refl _ _ | exact ⟨hS, Below.refl _ _⟩ | exact ⟨hS.2, Below.refl _ _⟩ | exact ⟨hS.1, Below.refl _ _⟩ | exact ⟨⟨hS.1⟩, Below.refl _ _⟩ | exact ⟨hS.1, hS.2, Below.refl _ _⟩)
    case hval =>
      intro v
      refine ⟨rfl, fun w' hS => ?_⟩
      have s3 := Lib.hid hS
      clear hS
      unfold Oper.wp
      go_simp
      refine (l01Points_any _ _ hm2).mono ?_
      rintro e w2 ⟨v', rfl, ho, hb2⟩
      exact ⟨⟨s3.out.1.below hb2 s3.out.1.lt, s3.out.2.trans (hb2.mono s3.out.2.size)⟩, ho.mono s3.out.2.size, hb2⟩
    case hQ =>
      intro v w' hS ho hbel
      have Ho := Lib.hid ho
      have Hb := Lib.hid hS.2
      clear hS ho hbel HS
      go_wp2
      go_ret2
      exact ⟨_, by rw [Hc.out] <;> rfl, by rw [Hr.out]; exact Ho.out, Hb.out⟩
  · have Hr := Lib.hid (imgSR_bad hc)
    have hcb : (codeSet f zs != 0) = true := by simp [hc]
    clear hc
    go_enter Tryz.func17, Tryz.ntmps17
    go_wp2_with fail
    refine (l01Set_any f A n c zs _ (HX.out _ (by (repeat (first | with_reducible assumption | with_reducible exact Below.refl _ _ | with_reducible refine Below.setCell ?_ (by first | omega | (simp <;> omega)) _ | with_reducible refine Below.alloc ?_ (by first | omega | (simp <;> omega)) _ | with_reducible refine Below.drew ?_ | with_reducible refine Below.drewN ?_ _)))) Hn.out hb).mono ?_
    rintro e w1 ⟨rfl, hb1⟩
    have hbel : Below w.heap.size w w1 := Below.trans (by (repeat (first | with_reducible assumption | with_reducible exact Below.refl _ _ | with_reducible refine Below.setCell ?_ (by first | omega | (simp <;> omega)) _ | with_reducible refine Below.alloc ?_ (by first | omega | (simp <;> omega)) _ | with_reducible refine Below.drew ?_ | with_reducible refine Below.drewN ?_ _))) (hb1.mono (by simp <;> omega))
    clear hb1
    go_wp2
    go_ret2
    exact ⟨_, rfl, by rw [Hr.out]; exact OwI.nil_, hbel⟩
end Go.Proofs.YtahamedecibmnaaGreat

namespace Go.Proofs.YtahamedecibmnaaGreat
open Go.RowKit
set_option maxRecDepth 100000
def codeLike (f g : M) : Int := if isMap f && isMap g then (if f.p = g.p then 0 else 2) else 1
theorem codeLike_bad1 {f g : M} (h : isMap f = false) : codeLike f g = 1 := by simp [codeLike, h]
theorem codeLike_bad2 {f g : M} (h : isMap g = false) : codeLike f g = 1 := by simp [codeLike, h]
theorem codeLike_ne {f g : M} (h1 : isMap f = true) (h2 : isMap g = true) (h : ¬ f.p = g.p) : codeLike f g = 2 := by simp [codeLike, h1, h2, h]
theorem codeLike_eq {f g : M} (h1 : isMap f = true) (h2 : isMap g = true) (h : f.p = g.p) : codeLike f g = 0 := by simp [codeLike, h1, h2, h]
def like (f g : M) : Bool := isMap f && isMap g && decide (f.p = g.p)
theorem like_iff {f g : M} : like f g = true ↔ Valid f ∧ Valid g ∧ f.p = g.p := by simp [like, isMap_iff, and_assoc]
theorem codeLike_like (f g : M) : like f g = true ↔ codeLike f g = 0 := by
  unfold like codeLike
  cases isMap f <;> cases isMap g <;> simp
theorem pairCode_any (f g : M) (w : World) :
    Calls Tryz.prog 34 #[.agg (mc f), .agg (mc g)] w fun e w' => e = .returned (I (codeLike f g)) ∧ Below w.heap.size w w' := by
  cases h1 : isMap f
  · have Hr := Lib.hid (codeLike_bad1 (g := g) h1)
    go_enter Tryz.func34, Tryz.ntmps34
    go_wp2_with fail
    refine (isMap_any _ _).mono ?_
    rintro e w1 ⟨rfl, hb⟩
    go_wp2
    go_ret
    exact ⟨ret_int Hr.out.symm, Below.trans (by (repeat (first | with_reducible assumption | with_reducible exact Below.refl _ _ | with_reducible refine Below.setCell ?_ (by first | omega | (simp <;> omega)) _ | with_reducible refine Below.alloc ?_ (by first | omega | (simp <;> omega)) _ | with_reducible refine Below.drew ?_ | with_reducible refine Below.drewN ?_ _))) (hb.mono (by simp; try omega))⟩
  · cases h2 : isMap g
    · have Hr := Lib.hid (codeLike_bad2 (f := f) h2)
      go_enter Tryz.func34, Tryz.ntmps34
      go_wp2_with fail
      refine (isMap_any _ _).mono ?_
      rintro e w1 ⟨rfl, hb⟩
      have hl : Below w.heap.size w w1 := Below.trans (by (repeat (first | with_reducible assumption | with_reducible exact Below.refl _ _ | with_reducible refine Below.setCell ?_ (by first | omega | (simp <;> omega)) _ | with_reducible refine Below.alloc ?_ (by first | omega | (simp <;> omega)) _ | with_reducible refine Below.drew ?_ | with_reducible refine Below.drewN ?_ _))) (hb.mono (by simp; try omega))
      have hs : Six w1 (w.heap.size + 1) g := Six.below (Blk.six (Blk.new' _ _ _ (by simp))) hb (by simp)
      clear hb
      go_wp2_with fail
      refine (isMap_any _ _).mono ?_
      rintro e w2 ⟨rfl, hb⟩
      go_wp2
      go_ret
      exact ⟨ret_int Hr.out.symm, hl.trans (hb.mono hl.size)⟩
    · by_cases hp : f.p = g.p
      · have Hr := Lib.hid (codeLike_eq h1 h2 hp)
        have hpb : (f.p != g.p) = false := by simp [hp]
        clear hp
        go_enter Tryz.func34, Tryz.ntmps34
        go_wp2_with fail
        refine (isMap_any _ _).mono ?_
        rintro e w1 ⟨rfl, hb⟩
        have hl : Below w.heap.size w w1 := Below.trans (by (repeat (first | with_reducible assumption | with_reducible exact Below.refl _ _ | with_reducible refine Below.setCell ?_ (by first | omega | (simp <;> omega)) _ | with_reducible refine Below.alloc ?_ (by first | omega | (simp <;> omega)) _ | with_reducible refine Below.drew ?_ | with_reducible refine Below.drewN ?_ _))) (hb.mono (by simp; try omega))
        have hs : Six w1 (w.heap.size + 1) g := Six.below (Blk.six (Blk.new' _ _ _ (by simp))) hb (by simp)
        have hs' : Six w1 w.heap.size f := Six.below (Blk.six ((Blk.new _ _ _).alloc _)) hb (by simp; try omega)
        clear hb
        go_wp2_with fail
        refine (isMap_any _ _).mono ?_
        rintro e w2 ⟨rfl, hb⟩
        replace hs := hs.below hb hs.lt
        replace hs' := hs'.below hb hs'.lt
        go_wp2
        go_ret
        exact ⟨ret_int Hr.out.symm, hl.trans (hb.mono hl.size)⟩
      · have Hr := Lib.hid (codeLike_ne h1 h2 hp)
        have hpb : (f.p != g.p) = true := by simp [hp]
        clear hp
        go_enter Tryz.func34, Tryz.ntmps34
        go_wp2_with fail
        refine (isMap_any _ _).mono ?_
        rintro e w1 ⟨rfl, hb⟩
        have hl : Below w.heap.size w w1 := Below.trans (by (repeat (first | with_reducible assumption | with_reducible exact Below.refl _ _ | with_reducible refine Below.setCell ?_ (by first | omega | (simp <;> omega)) _ | with_reducible refine Below.alloc ?_ (by first | omega | (simp <;> omega)) _ | with_reducible refine Below.drew ?_ | with_reducible refine Below.drewN ?_ _))) (hb.mono (by simp; try omega))
        have hs : Six w1 (w.heap.size + 1) g := Six.below (Blk.six (Blk.new' _ _ _ (by simp))) hb (by simp)
        have hs' : Six w1 w.heap.size f := Six.below (Blk.six ((Blk.new _ _ _).alloc _)) hb (by simp; try omega)
        clear hb
        go_wp2_with fail
        refine (isMap_any _ _).mono ?_
        rintro e w2 ⟨rfl, hb⟩
        replace hs := hs.below hb hs.lt
        replace hs' := hs'.below hb hs'.lt
        go_wp2
        go_ret
        exact ⟨ret_int Hr.out.symm, hl.trans (hb.mono hl.size)⟩
theorem l01Like_any (f g : M) (w : World) :
    Calls Tryz.prog 36 #[.agg (mc f), .agg (mc g)] w fun e w' => e = .returned (I (codeLike f g)) ∧ Below w.heap.size w w' := by
  cases h1 : isMap f
  · have Hr := Lib.hid (codeLike_bad1 (g := g) h1)
    go_enter Tryz.func36, Tryz.ntmps36
    go_wp2_with fail
    refine (l01Is_any _ _).mono ?_
    rintro e w1 ⟨rfl, hb⟩
    go_wp2
    go_ret
    exact ⟨ret_int Hr.out.symm, Below.trans (by (repeat (first | with_reducible assumption | with_reducible exact Below.refl _ _ | with_reducible refine Below.setCell ?_ (by first | omega | (simp <;> omega)) _ | with_reducible refine Below.alloc ?_ (by first | omega | (simp <;> omega)) _ | with_reducible refine Below.drew ?_ | with_reducible refine Below.drewN ?_ _))) (hb.mono (by simp; try omega))⟩
  · cases h2 : isMap g
    · have Hr := Lib.hid (codeLike_bad2 (f := f) h2)
      go_enter Tryz.func36, Tryz.ntmps36
      go_wp2_with fail
      refine (l01Is_any _ _).mono ?_
      rintro e w1 ⟨rfl, hb⟩
      have hl : Below w.heap.size w w1 := Below.trans (by (repeat (first | with_reducible assumption | with_reducible exact Below.refl _ _ | with_reducible refine Below.setCell ?_ (by first | omega | (simp <;> omega)) _ | with_reducible refine Below.alloc ?_ (by first | omega | (simp <;> omega)) _ | with_reducible refine Below.drew ?_ | with_reducible refine Below.drewN ?_ _))) (hb.mono (by simp; try omega))
      have hs : Six w1 (w.heap.size + 1) g := Six.below (Blk.six (Blk.new' _ _ _ (by simp))) hb (by simp)
      clear hb
      go_wp2_with fail
      refine (l01Is_any _ _).mono ?_
      rintro e w2 ⟨rfl, hb⟩
      go_wp2
      go_ret
      exact ⟨ret_int Hr.out.symm, hl.trans (hb.mono hl.size)⟩
    · by_cases hp : f.p = g.p
      · have Hr := Lib.hid (codeLike_eq h1 h2 hp)
        have hpb : (f.p != g.p) = false := by simp [hp]
        clear hp
        go_enter Tryz.func36, Tryz.ntmps36
        go_wp2_with fail
        refine (l01Is_any _ _).mono ?_
        rintro e w1 ⟨rfl, hb⟩
        have hl : Below w.heap.size w w1 := Below.trans (by (repeat (first | with_reducible assumption | with_reducible exact Below.refl _ _ | with_reducible refine Below.setCell ?_ (by first | omega | (simp <;> omega)) _ | with_reducible refine Below.alloc ?_ (by first | omega | (simp <;> omega)) _ | with_reducible refine Below.drew ?_ | with_reducible refine Below.drewN ?_ _))) (hb.mono (by simp; try omega))
        have hs : Six w1 (w.heap.size + 1) g := Six.below (Blk.six (Blk.new' _ _ _ (by simp))) hb (by simp)
        have hs' : Six w1 w.heap.size f := Six.below (Blk.six ((Blk.new _ _ _).alloc _)) hb (by simp; try omega)
        clear hb
        go_wp2_with fail
        refine (l01Is_any _ _).mono ?_
        rintro e w2 ⟨rfl, hb⟩
        replace hs := hs.below hb hs.lt
        replace hs' := hs'.below hb hs'.lt
        go_wp2
        go_ret
        exact ⟨ret_int Hr.out.symm, hl.trans (hb.mono hl.size)⟩
      · have Hr := Lib.hid (codeLike_ne h1 h2 hp)
        have hpb : (f.p != g.p) = true := by simp [hp]
        clear hp
        go_enter Tryz.func36, Tryz.ntmps36
        go_wp2_with fail
        refine (l01Is_any _ _).mono ?_
        rintro e w1 ⟨rfl, hb⟩
        have hl : Below w.heap.size w w1 := Below.trans (by (repeat (first | with_reducible assumption | with_reducible exact Below.refl _ _ | with_reducible refine Below.setCell ?_ (by first | omega | (simp <;> omega)) _ | with_reducible refine Below.alloc ?_ (by first | omega | (simp <;> omega)) _ | with_reducible refine Below.drew ?_ | with_reducible refine Below.drewN ?_ _))) (hb.mono (by simp; try omega))
        have hs : Six w1 (w.heap.size + 1) g := Six.below (Blk.six (Blk.new' _ _ _ (by simp))) hb (by simp)
        have hs' : Six w1 w.heap.size f := Six.below (Blk.six ((Blk.new _ _ _).alloc _)) hb (by simp; try omega)
        clear hb
        go_wp2_with fail
        refine (l01Is_any _ _).mono ?_
        rintro e w2 ⟨rfl, hb⟩
        replace hs := hs.below hb hs.lt
        replace hs' := hs'.below hb hs'.lt
        go_wp2
        go_ret
        exact ⟨ret_int Hr.out.symm, hl.trans (hb.mono hl.size)⟩
def mulR (f g : M) : M := if like f g then mul f g else M0
theorem ImplProduct_any (f g : M) (w : World) :
    Calls Tryz.prog 6 #[.agg (mc f), .agg (mc g)] w fun e w' => e = .returned (.tuple #[.agg (mc (mulR f g)), I (codeLike f g)]) ∧ Below w.heap.size w w' := by
  by_cases hc : codeLike f g = 0
  · have hlk : Valid f := (like_iff.1 ((codeLike_like f g).2 hc)).1
    have hcb : (codeLike f g != 0) = false := by simp [hc]
    have Hr : Hid (mulR f g = mul f g) := by show _ = _; simp [mulR, (codeLike_like f g).2 hc]
    have Hc := Lib.hid hc
    clear hc
    go_enter Tryz.func6, Tryz.ntmps6
    go_wp2_with fail
    refine (pairCode_any f g _).mono ?_
    rintro e w1 ⟨rfl, hb⟩
    have hl : Below w.heap.size w w1 := Below.trans (by (repeat (first | with_reducible assumption | with_reducible exact Below.refl _ _ | with_reducible refine Below.setCell ?_ (by first | omega | (simp <;> omega)) _ | with_reducible refine Below.alloc ?_ (by first | omega | (simp <;> omega)) _ | with_reducible refine Below.drew ?_ | with_reducible refine Below.drewN ?_ _))) (hb.mono (by simp; try omega))
    have hs : Six w1 (w.heap.size + 1) g := Six.below (Blk.six ((Blk.new' _ _ _ (by simp)).alloc _)) hb (by simp)
    have hs' : Six w1 w.heap.size f := Six.below (Blk.six (((Blk.new _ _ _).alloc _).alloc _)) hb (by simp; try omega)
    have hB : Blk w1 (w.heap.size + 1 + 1) 26 (mc M0) := Blk.below (Blk.new' _ _ _ (by simp)) hb (by simp)
    clear hb
    go_wp2_with fail
    refine (times_any _ _ _ hlk).mono ?_
    rintro e w2 ⟨rfl, hb⟩
    replace hB := hB.below hb hB.lt
    obtain ⟨e0, e1, e2, e3, e4, e5⟩ := hB.six
    obtain ⟨z0, z1, z2, z3, z4, z5⟩ := hB.fr6
    replace hl := hl.trans (hb.mono hl.size)
    clear hb
    go_wp2
    refine bodyPost_ret (v := .tuple #[.agg (mc (mul f g)), I 0]) ?_ rfl ⟨by rw [Hr.out, Hc.out], by (repeat (first | with_reducible assumption | with_reducible exact Below.refl _ _ | with_reducible refine Below.setCell ?_ (by first | omega | (simp <;> omega)) _ | with_reducible refine Below.alloc ?_ (by first | omega | (simp <;> omega)) _ | with_reducible refine Below.drew ?_ | with_reducible refine Below.drewN ?_ _))⟩
    simp [results, Tryz.results6, go_sem, *]
  · have hcb : (codeLike f g != 0) = true := by simp [hc]
    have Hr : Hid (mulR f g = M0) := by
      show _ = _
      unfold mulR
      rw [if_neg]
      rw [codeLike_like]; exact hc
    clear hc
    go_enter Tryz.func6, Tryz.ntmps6
    go_wp2_with fail
    refine (pairCode_any _ _ _).mono ?_
    rintro e w1 ⟨rfl, hb⟩
    have hl : Below w.heap.size w w1 := Below.trans (by (repeat (first | with_reducible assumption | with_reducible exact Below.refl _ _ | with_reducible refine Below.setCell ?_ (by first | omega | (simp <;> omega)) _ | with_reducible refine Below.alloc ?_ (by first | omega | (simp <;> omega)) _ | with_reducible refine Below.drew ?_ | with_reducible refine Below.drewN ?_ _))) (hb.mono (by simp; try omega))
    have hB : Blk w1 (w.heap.size + 1 + 1) 26 (mc M0) := Blk.below (Blk.new' _ _ _ (by simp)) hb (by simp)
    clear hb
    obtain ⟨e0, e1, e2, e3, e4, e5⟩ := hB.six
    obtain ⟨z0, z1, z2, z3, z4, z5⟩ := hB.fr6
    go_wp2
    refine bodyPost_ret (v := .tuple #[.agg (mc M0), I (codeLike f g)]) ?_ rfl ⟨by rw [Hr.out], by (repeat (first | with_reducible assumption | with_reducible exact Below.refl _ _ | with_reducible refine Below.setCell ?_ (by first | omega | (simp <;> omega)) _ | with_reducible refine Below.alloc ?_ (by first | omega | (simp <;> omega)) _ | with_reducible refine Below.drew ?_ | with_reducible refine Below.drewN ?_ _))⟩
    simp [results, Tryz.results6, go_sem, *]
    exact ⟨rfl, rfl, rfl, rfl, rfl, rfl⟩
theorem SpecProduct_any (f g : M) (w : World) :
    Calls Tryz.prog 7 #[.agg (mc f), .agg (mc g)] w fun e w' => e = .returned (.tuple #[.agg (mc (mulR f g)), I (codeLike f g)]) ∧ Below w.heap.size w w' := by
  by_cases hc : codeLike f g = 0
  · have hlk : Valid f := (like_iff.1 ((codeLike_like f g).2 hc)).1
    have hcb : (codeLike f g != 0) = false := by simp [hc]
    have Hr : Hid (mulR f g = mul f g) := by show _ = _; simp [mulR, (codeLike_like f g).2 hc]
    have Hc := Lib.hid hc
    clear hc
    go_enter Tryz.func7, Tryz.ntmps7
    go_wp2_with fail
    refine (l01Like_any f g _).mono ?_
    rintro e w1 ⟨rfl, hb⟩
    have hl : Below w.heap.size w w1 := Below.trans (by (repeat (first | with_reducible assumption | with_reducible exact Below.refl _ _ | with_reducible refine Below.setCell ?_ (by first | omega | (simp <;> omega)) _ | with_reducible refine Below.alloc ?_ (by first | omega | (simp <;> omega)) _ | with_reducible refine Below.drew ?_ | with_reducible refine Below.drewN ?_ _))) (hb.mono (by simp; try omega))
    have hs : Six w1 (w.heap.size + 1) g := Six.below (Blk.six ((Blk.new' _ _ _ (by simp)).alloc _)) hb (by simp)
    have hs' : Six w1 w.heap.size f := Six.below (Blk.six (((Blk.new _ _ _).alloc _).alloc _)) hb (by simp; try omega)
    have hB : Blk w1 (w.heap.size + 1 + 1) 26 (mc M0) := Blk.below (Blk.new' _ _ _ (by simp)) hb (by simp)
    clear hb
    go_wp2_with fail
    refine (l01Times_any _ _ _ hlk).mono ?_
    rintro e w2 ⟨rfl, hb⟩
    replace hB := hB.below hb hB.lt
    obtain ⟨e0, e1, e2, e3, e4, e5⟩ := hB.six
    obtain ⟨z0, z1, z2, z3, z4, z5⟩ := hB.fr6
    replace hl := hl.trans (hb.mono hl.size)
    clear hb
    go_wp2
    refine bodyPost_ret (v := .tuple #[.agg (mc (mul f g)), I 0]) ?_ rfl ⟨by rw [Hr.out, Hc.out], by (repeat (first | with_reducible assumption | with_reducible exact Below.refl _ _ | with_reducible refine Below.setCell ?_ (by first | omega | (simp <;> omega)) _ | with_reducible refine Below.alloc ?_ (by first | omega | (simp <;> omega)) _ | with_reducible refine Below.drew ?_ | with_reducible refine Below.drewN ?_ _))⟩
    simp [results, Tryz.results7, go_sem, *]
  · have hcb : (codeLike f g != 0) = true := by simp [hc]
    have Hr : Hid (mulR f g = M0) := by
      show _ = _
      unfold mulR
      rw [if_neg]
      rw [codeLike_like]; exact hc
    clear hc
    go_enter Tryz.func7, Tryz.ntmps7
    go_wp2_with fail
    refine (l01Like_any _ _ _).mono ?_
    rintro e w1 ⟨rfl, hb⟩
    have hl : Below w.heap.size w w1 := Below.trans (by (repeat (first | with_reducible assumption | with_reducible exact Below.refl _ _ | with_reducible refine Below.setCell ?_ (by first | omega | (simp <;> omega)) _ | with_reducible refine Below.alloc ?_ (by first | omega | (simp <;> omega)) _ | with_reducible refine Below.drew ?_ | with_reducible refine Below.drewN ?_ _))) (hb.mono (by simp; try omega))
    have hB : Blk w1 (w.heap.size + 1 + 1) 26 (mc M0) := Blk.below (Blk.new' _ _ _ (by simp)) hb (by simp)
    clear hb
    obtain ⟨e0, e1, e2, e3, e4, e5⟩ := hB.six
    obtain ⟨z0, z1, z2, z3, z4, z5⟩ := hB.fr6
    go_wp2
    refine bodyPost_ret (v := .tuple #[.agg (mc M0), I (codeLike f g)]) ?_ rfl ⟨by rw [Hr.out], by (repeat (first | with_reducible assumption | with_reducible exact Below.refl _ _ | with_reducible refine Below.setCell ?_ (by first | omega | (simp <;> omega)) _ | with_reducible refine Below.alloc ?_ (by first | omega | (simp <;> omega)) _ | with_reducible refine Below.drew ?_ | with_reducible refine Below.drewN ?_ _))⟩
    simp [results, Tryz.results7, go_sem, *]
    exact ⟨rfl, rfl, rfl, rfl, rfl, rfl⟩
end Go.Proofs.YtahamedecibmnaaGreat

namespace Go.Proofs.YtahamedecibmnaaGreat
open Go.RowKit
set_option maxRecDepth 100000
def rk (f : M) : Nat := (sel (imQ f (ups f.p.toNat)) 5).length
theorem imQ_ups {f : M} {n : Nat} {k : Nat} : imQ f (ups n) k = true ↔ ∃ i, i < n ∧ f.at i = k := by
  rw [imQ, decide_eq_true_eq, led, List.mem_map]
  constructor
  · rintro ⟨z, hz, e⟩
    obtain ⟨i, hi, rfl⟩ := ups_mem hz
    exact ⟨i, hi, by simpa using e⟩
  · rintro ⟨i, hi, e⟩
    exact ⟨(i : Int), by simp [ups]; exact ⟨i, hi, rfl⟩, by simpa using e⟩
set_option maxHeartbeats 1000000 in
theorem rank_any (f : M) (w : World) (hv : Valid f) :
    Calls Tryz.prog 40 #[.agg (mc f)] w fun e w' => e = .returned (I (rk f)) ∧ Below w.heap.size w w' := by
  have hp1 := hv.p1
  have hp5 := hv.p5
  obtain ⟨n, hn⟩ : ∃ n : Nat, n = f.p.toNat := ⟨_, rfl⟩
  have hfp : f.p = (n : Int) := by omega
  have Hrk : Hid (rk f = (sel (imQ f (ups n)) 5).length) := by show _ = _; rw [hn]; rfl
  have hpt := fun w' => points_any n w' (by omega)
  rw [← hfp] at hpt
  have Hpt := Lib.hid hpt
  have hn1 : 1 ≤ n := by omega
  have hn5 : n ≤ 5 := by omega
  have Hbd : Hid (∀ j, j < (ups n).length → 0 ≤ gi (ups n) j ∧ gi (ups n) j < f.p) := by
    intro j hj
    rw [ups_length] at hj
    rw [gi_ups hj]
    omega
  clear hpt hfp hn
  go_enter Tryz.func40, Tryz.ntmps40
  go_wp2_with fail
  go_region_with (first
    | (go_at_call 68
       refine (Hpt.out _).mono ?_
       rintro e w1 ⟨v, rfl, ho, hb⟩
       have hB1 : Six w1 w.heap.size f := Six.below (Blk.six (Blk.drew (Blk.new w _ _))) hb (by simp)
       have hbel : Below w.heap.size w w1 := Below.trans (by (repeat (first | with_reducible assumption | with_reducible exact Below.refl _ _ | with_reducible refine Below.setCell ?_ (by first | omega | (simp <;> omega)) _ | with_reducible refine Below.alloc ?_ (by first | omega | (simp <;> omega)) _ | with_reducible refine Below.drew ?_ | with_reducible refine Below.drewN ?_ _))) (hb.mono (by simp <;> omega))
       obtain ⟨A, c, hv', hr⟩ := ho.form
       rw [ups_length] at hv'
       subst hv'
       clear hb ho)
    | (go_at_call 45
       refine (image_any f A n c (ups n) _ hv hr (ups_length n) (by omega) Hbd.out).mono ?_
       rintro e w2 ⟨v, rfl, ho, hb⟩
       replace hbel := hbel.trans (hb.mono hbel.size)
       obtain ⟨A2, c2, hv', _⟩ := ho.form
       rw [← Hrk.out] at hv'
       subst hv'
       clear hb ho))
  all_goals
    go_wp2
    go_ret
    exact ⟨rfl, hbel⟩
/-! ### inverses -/
end Go.Proofs.YtahamedecibmnaaGreat

namespace Go.Proofs.YtahamedecibmnaaGreat
open Go.RowKit
set_option maxRecDepth 100000
def rkR (f : M) : Int := if isMap f then (rk f : Int) else 0
theorem rkR_bad {f : M} (h : isMap f = false) : rkR f = 0 := by simp [rkR, h]
theorem rkR_good {f : M} (h : isMap f = true) : rkR f = rk f := by simp [rkR, h]
theorem ImplRank_any (f : M) (w : World) :
    Calls Tryz.prog 10 #[.agg (mc f)] w fun e w' => e = .returned (.tuple #[I (rkR f), I (cInv (isMap f))]) ∧ Below w.heap.size w w' := by
  cases h : isMap f
  · have Hr := Lib.hid (rkR_bad h)
    go_enter Tryz.func10, Tryz.ntmps10
    go_wp2_with fail
    refine (isMap_any _ _).mono ?_
    rintro e w1 ⟨rfl, hb⟩
    rw [h]
    have hbel : Below w.heap.size w w1 := Below.trans (by (repeat (first | with_reducible assumption | with_reducible exact Below.refl _ _ | with_reducible refine Below.setCell ?_ (by first | omega | (simp <;> omega)) _ | with_reducible refine Below.alloc ?_ (by first | omega | (simp <;> omega)) _ | with_reducible refine Below.drew ?_ | with_reducible refine Below.drewN ?_ _))) (hb.mono (by simp <;> omega))
    clear hb
    go_wp2
    go_ret2
    exact ⟨by rw [Hr.out] <;> rfl, hbel⟩
  · have Hr := Lib.hid (rkR_good h)
    have hv := (isMap_iff f).1 h
    go_enter Tryz.func10, Tryz.ntmps10
    go_wp2_with fail
    refine (isMap_any _ _).mono ?_
    rintro e w1 ⟨rfl, hb⟩
    rw [h]
    have hs : Six w1 w.heap.size f := Six.below (Blk.six (Blk.new w _ _)) hb (by simp)
    have hbel : Below w.heap.size w w1 := Below.trans (by (repeat (first | with_reducible assumption | with_reducible exact Below.refl _ _ | with_reducible refine Below.setCell ?_ (by first | omega | (simp <;> omega)) _ | with_reducible refine Below.alloc ?_ (by first | omega | (simp <;> omega)) _ | with_reducible refine Below.drew ?_ | with_reducible refine Below.drewN ?_ _))) (hb.mono (by simp <;> omega))
    clear hb
    go_wp2_with fail
    refine (rank_any f _ hv).mono ?_
    rintro e w2 ⟨rfl, hb⟩
    replace hbel := hbel.trans (hb.mono hbel.size)
    clear hb
    go_wp2
    go_ret2
    exact ⟨by rw [Hr.out] <;> rfl, hbel⟩
end Go.Proofs.YtahamedecibmnaaGreat
