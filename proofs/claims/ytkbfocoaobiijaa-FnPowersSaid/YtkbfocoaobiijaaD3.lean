/- Contracts of sets of points as digits in base 2, and of the cyclic points; the maps are valid where the theorems say so. -/
import Derived.Test.YtkbfocoaobiijaaD2
import Derived.Test.YtkbfocoaobiijaaC9
import Derived.Laws.BitsLemmas
namespace Go.Proofs.Ytkbfocoaobiijaa
open Go.RowKit
set_option maxRecDepth 100000

theorem or_fin : ∀ (m : Fin 32) (a : Fin 5), bits .or .i64 ((m.val : Nat) : Int) (wrap64 (2 ^ a.val)) = ((m.val ||| 2 ^ a.val : Nat) : Int) ∧ m.val ||| 2 ^ a.val < 32 := by decide +kernel
theorem or_run {m a : Nat} (hm : m < 32) (ha : a < 5) : bits .or .i64 (m : Int) (wrap64 (2 ^ a)) = ((m ||| 2 ^ a : Nat) : Int) ∧ m ||| 2 ^ a < 32 := or_fin ⟨m, hm⟩ ⟨a, ha⟩
theorem and_fin : ∀ (m : Fin 32) (k : Fin 62), (bits .and .i64 (((m.val : Nat) : Int) / 2 ^ k.val) 1 == 1) = m.val.testBit k.val := by decide +kernel
theorem and_run {m k : Nat} (hm : m < 32) (hk : k < 62) : (bits .and .i64 ((m : Int) / 2 ^ k) 1 == 1) = m.testBit k := and_fin ⟨m, hm⟩ ⟨k, hk⟩
theorem bit_far {m k : Nat} (hm : m < 32) (hk : 5 ≤ k) : m.testBit k = false := Nat.testBit_lt_two_pow (Nat.lt_of_lt_of_le hm (Nat.pow_le_pow_right (show 0 < 2 by decide) hk))

theorem sel_ext {q q' : Int → Bool} : ∀ {n : Nat}, (∀ k : Nat, k < n → q k = q' k) → sel q n = sel q' n
  | 0, _ => rfl
  | n + 1, h => by rw [sel_succ, sel_succ, sel_ext fun k hk => h k (by omega), h n (by omega)]
theorem sel_far {q : Int → Bool} {n : Nat} : ∀ {N : Nat}, n ≤ N → (∀ k : Nat, n ≤ k → k < N → q k = false) → sel q N = sel q n
  | 0, h, _ => by obtain rfl : n = 0 := by omega
                  rfl
  | N + 1, h, hq => by
    by_cases e : n = N + 1
    · rw [e]
    · rw [sel_succ, hq N (by omega) (by omega), sel_far (by omega) fun k h1 h2 => hq k h1 (by omega)]
      simp

def bq (m : Nat) (z : Int) : Bool := m.testBit z.toNat

theorem bq_nat (m k : Nat) : bq m k = m.testBit k := rfl
/-- the points of a mask -/
def pts (m : Nat) : List Int := sel (bq m) 62

theorem l01Points_any (m : Nat) (w : World) (hm : m < 32) :
    Calls Try.prog 50 #[I m] w fun e w' => ∃ v, e = .returned v ∧ OwI 2 w' w.heap.size v (pts m) ∧ Below w.heap.size w w' := by
  go_enter Try.func50, Try.ntmps50
  go_wp2
  go_loopw [3, 4] (fun s i wr => ∃ k : Nat, k ≤ 62 ∧ OwI 2 wr w.heap.size s (sel (bq m) k) ∧ i = .int .i64 k ∧ Below w.heap.size w wr) (fun _ i _ => 62 - (intOf i).toNat)
  case atStart => exact ⟨0, by omega, OwI.made (Nat.le_refl _), rfl, by (repeat (first | with_reducible assumption | with_reducible exact Below.refl _ _ | with_reducible refine Below.setCell ?_ (by first | omega | (simp <;> omega)) _ | with_reducible refine Below.alloc ?_ (by first | omega | (simp <;> omega)) _ | with_reducible refine Below.drew ?_ | with_reducible refine Below.drewN ?_ _))⟩
  case round =>
    obtain ⟨k, hk, ho, rfl, hbel⟩ := hrel
    obtain ⟨A, c, hv', _⟩ := ho.form
    obtain ⟨n, hn⟩ : ∃ n, n = (sel (bq m) k).length := ⟨_, rfl⟩
    have hn2 : n ≤ k := by rw [hn]; exact sel_length _ _
    rw [← hn] at hv'
    subst hv'
    have Hn := Lib.hid hn
    have hsz := hbel.size
    clear hn
    by_cases hlt : k < 62
    · have ha := and_run (k := k) hm hlt
      have hss := sel_succ (bq m) k
      rw [← bq_nat] at ha
      cases hb : bq m k
      · rw [hb] at ha hss
        have Hss : Hid (sel (bq m) (k + 1) = sel (bq m) k) := by show _ = _; rw [hss]; simp
        clear hss hb
        go_wp2
        go_roundw
        case rel => exact ⟨k + 1, by omega, by rw [Hss.out]; exact ho, by go_num, hbel⟩
        case measure => simp [intOf]; omega
      · rw [hb] at ha hss
        have Hss : Hid (sel (bq m) (k + 1) = sel (bq m) k ++ [(k : Int)]) := by show _ = _; rw [hss]; simp
        clear hss hb
        go_wp2_with (at_builtin; refine wpList_pushI rfl (.tmp 16) (.tmp 18) rfl w.heap.size (.slice A n c) (sel (bq m) k) rfl (ho.alloc _) wr.heap.size 1 k rfl ((Blk.new _ _ _).cell 0) (by rw [← Hn.out]; omega) (by simp; omega) (wr.heap.size + 1) (by simp) ?_; intro g' cap w4 ho' hgr hg' hlt')
        go_roundw
        case rel => exact ⟨k + 1, by omega, by rw [Hss.out]; simpa [Hn.out] using ho', by go_num, (ho.alloc _).bel (hbel.alloc hsz _) hgr (by omega) (by simp; omega)⟩
        case measure => simp [intOf]; omega
    · obtain rfl : k = 62 := by omega
      go_wp2
      go_ret
      exact ⟨_, rfl, ho, hbel⟩

/-- the image of the first k points as a mask -/
def im (f : M) : Nat → Nat
  | 0 => 0
  | k + 1 => im f k ||| 2 ^ (f.at k).toNat
theorem im_lt {f : M} (hf : Valid f) : ∀ k : Nat, (k : Int) ≤ f.p → im f k < 32
  | 0, _ => by simp [im]
  | k + 1, h => by
    have h5 := hf.p5
    have b1 := hf.lo k (by omega) (by omega)
    have b2 := hf.hi k (by omega) (by omega)
    exact (or_run (im_lt hf k (by omega)) (a := (f.at k).toNat) (by omega)).2
theorem im_bit (f : M) (j : Nat) : ∀ k, (im f k).testBit j = true ↔ ∃ i, i < k ∧ (f.at i).toNat = j
  | 0 => by simp [im]
  | k + 1 => by
    rw [im, Nat.testBit_or, Bool.or_eq_true, im_bit f j k, Nat.testBit_two_pow, decide_eq_true_eq]
    constructor
    · rintro (⟨i, hi, e⟩ | e)
      · exact ⟨i, by omega, e⟩
      · exact ⟨k, by omega, e⟩
    · rintro ⟨i, hi, e⟩
      by_cases h : i = k
      · subst h; exact .inr e
      · exact .inl ⟨i, by omega, e⟩

theorem l01Image_any (f : M) (w : World) (hf : Valid f) :
    Calls Try.prog 51 #[.agg (mc f)] w fun e w' => e = .returned (I (im f f.p.toNat)) ∧ Below w.heap.size w w' := by
  have hp1 := hf.p1
  have hp5 := hf.p5
  go_enter Try.func51, Try.ntmps51
  go_wp2
  go_loopw [3, 4] (fun s i wr => ∃ k : Nat, (k : Int) ≤ f.p ∧ s = I (im f k) ∧ i = .int .i64 k ∧ Blk wr w.heap.size 26 (mc f) ∧ Below w.heap.size w wr) (fun _ i _ => 5 - (intOf i).toNat)
  case atStart => exact ⟨0, by omega, rfl, rfl, Blk.new _ _ _, by (repeat (first | with_reducible assumption | with_reducible exact Below.refl _ _ | with_reducible refine Below.setCell ?_ (by first | omega | (simp <;> omega)) _ | with_reducible refine Below.alloc ?_ (by first | omega | (simp <;> omega)) _ | with_reducible refine Below.drew ?_ | with_reducible refine Below.drewN ?_ _))⟩
  case round =>
    obtain ⟨k, hk, rfl, rfl, hB, hbel⟩ := hrel
    have c0 : wr.cell? ⟨w.heap.size, 0, none⟩ = some (I f.p) := hB.cell 0
    by_cases hlt : (k : Int) < f.p
    · have c1 := hB.at_ (k := k) (by omega)
      have b1 := hf.lo k (by omega) hlt
      have b2 := hf.hi k (by omega) hlt
      have ho := (or_run (im_lt hf k hk) (a := (f.at k).toNat) (by omega)).1
      have Hi : Hid (im f (k + 1) = im f k ||| 2 ^ (f.at k).toNat) := rfl
      go_wp2
      go_roundw
      case rel => exact ⟨k + 1, by omega, by rw [Hi.out], by go_num, hB, hbel⟩
      case measure => simp [intOf]; omega
    · obtain rfl : k = f.p.toNat := by omega
      go_wp2
      go_ret
      exact ⟨rfl, hbel⟩

/-! ### cyclic points -/
theorem pg1 : ∀ a b : Fin 1, a = b := by decide
theorem pg2 : ∀ a b c : Fin 2, a = b ∨ a = c ∨ b = c := by decide
theorem pg3 : ∀ a b c d : Fin 3, a = b ∨ a = c ∨ a = d ∨ b = c ∨ b = d ∨ c = d := by decide +kernel
theorem pg4 : ∀ a b c d e : Fin 4, a = b ∨ a = c ∨ a = d ∨ a = e ∨ b = c ∨ b = d ∨ b = e ∨ c = d ∨ c = e ∨ d = e := by decide +kernel
theorem holes {n : Nat} {x : Nat → Nat} (h1 : 1 ≤ n) (h5 : n ≤ 5) (h : ∀ i, x i < n) : ∃ a b, a < b ∧ b ≤ n ∧ x a = x b := by
  have hn : n = 1 ∨ n = 2 ∨ n = 3 ∨ n = 4 ∨ n = 5 := by omega
  rcases hn with rfl | rfl | rfl | rfl | rfl
  · have := pg1 ⟨x 0, h 0⟩ ⟨x 1, h 1⟩
    simp only [Fin.mk.injEq] at this
    exact ⟨0, 1, by decide, by decide, this⟩
  · have := pg2 ⟨x 0, h 0⟩ ⟨x 1, h 1⟩ ⟨x 2, h 2⟩
    simp only [Fin.mk.injEq] at this
    rcases this with e | e | e
    · exact ⟨0, 1, by decide, by decide, e⟩
    · exact ⟨0, 2, by decide, by decide, e⟩
    · exact ⟨1, 2, by decide, by decide, e⟩
  · have := pg3 ⟨x 0, h 0⟩ ⟨x 1, h 1⟩ ⟨x 2, h 2⟩ ⟨x 3, h 3⟩
    simp only [Fin.mk.injEq] at this
    rcases this with e | e | e | e | e | e
    · exact ⟨0, 1, by decide, by decide, e⟩
    · exact ⟨0, 2, by decide, by decide, e⟩
    · exact ⟨0, 3, by decide, by decide, e⟩
    · exact ⟨1, 2, by decide, by decide, e⟩
    · exact ⟨1, 3, by decide, by decide, e⟩
    · exact ⟨2, 3, by decide, by decide, e⟩
  · have := pg4 ⟨x 0, h 0⟩ ⟨x 1, h 1⟩ ⟨x 2, h 2⟩ ⟨x 3, h 3⟩ ⟨x 4, h 4⟩
    simp only [Fin.mk.injEq] at this
    rcases this with e | e | e | e | e | e | e | e | e | e
    · exact ⟨0, 1, by decide, by decide, e⟩
    · exact ⟨0, 2, by decide, by decide, e⟩
    · exact ⟨0, 3, by decide, by decide, e⟩
    · exact ⟨0, 4, by decide, by decide, e⟩
    · exact ⟨1, 2, by decide, by decide, e⟩
    · exact ⟨1, 3, by decide, by decide, e⟩
    · exact ⟨1, 4, by decide, by decide, e⟩
    · exact ⟨2, 3, by decide, by decide, e⟩
    · exact ⟨2, 4, by decide, by decide, e⟩
    · exact ⟨3, 4, by decide, by decide, e⟩
  · have := pigeon ⟨x 0, h 0⟩ ⟨x 1, h 1⟩ ⟨x 2, h 2⟩ ⟨x 3, h 3⟩ ⟨x 4, h 4⟩ ⟨x 5, h 5⟩
    simp only [Fin.mk.injEq] at this
    rcases this with e | e | e | e | e | e | e | e | e | e | e | e | e | e | e
    · exact ⟨0, 1, by decide, by decide, e⟩
    · exact ⟨0, 2, by decide, by decide, e⟩
    · exact ⟨0, 3, by decide, by decide, e⟩
    · exact ⟨0, 4, by decide, by decide, e⟩
    · exact ⟨0, 5, by decide, by decide, e⟩
    · exact ⟨1, 2, by decide, by decide, e⟩
    · exact ⟨1, 3, by decide, by decide, e⟩
    · exact ⟨1, 4, by decide, by decide, e⟩
    · exact ⟨1, 5, by decide, by decide, e⟩
    · exact ⟨2, 3, by decide, by decide, e⟩
    · exact ⟨2, 4, by decide, by decide, e⟩
    · exact ⟨2, 5, by decide, by decide, e⟩
    · exact ⟨3, 4, by decide, by decide, e⟩
    · exact ⟨3, 5, by decide, by decide, e⟩
    · exact ⟨4, 5, by decide, by decide, e⟩
theorem go_go (f : M) (k a : Nat) : ∀ b, go' f (go' f k a) b = go' f k (a + b)
  | 0 => rfl
  | b + 1 => by rw [← Nat.add_assoc]; simp only [go']; rw [go_go f k a b]
/-- does the walk from k come back within n steps -/
def back (f : M) (k : Nat) : Nat → Bool
  | 0 => false
  | n + 1 => back f k n || decide (go' f k (n + 1) = k)
theorem back_iff (f : M) (k : Nat) : ∀ n, back f k n = true ↔ ∃ j, 1 ≤ j ∧ j ≤ n ∧ go' f k j = k
  | 0 => by simp [back]; omega
  | n + 1 => by
    rw [back, Bool.or_eq_true, back_iff f k n, decide_eq_true_eq]
    constructor
    · rintro (⟨j, h1, h2, h3⟩ | h)
      · exact ⟨j, h1, by omega, h3⟩
      · exact ⟨n + 1, by omega, by omega, h⟩
    · rintro ⟨j, h1, h2, h3⟩
      by_cases e : j = n + 1
      · subst e; exact .inr h3
      · exact .inl ⟨j, h1, by omega, h3⟩
theorem loop_at {f : M} {k d : Nat} (h : go' f k d = k) : ∀ q, go' f k (q * d) = k
  | 0 => by simp [go']
  | q + 1 => by rw [Nat.succ_mul, ← go_go, loop_at h q, h]
theorem back_60 {f : M} (hf : Valid f) {k : Nat} (hk : (k : Int) < f.p) : back f k f.p.toNat = true ↔ ∃ i, i < f.p.toNat ∧ go' f i 60 = k := by
  have h1 := hf.p1
  have h5 := hf.p5
  rw [back_iff]
  constructor
  · rintro ⟨j, hj1, hj2, hj⟩
    refine ⟨k, by omega, ?_⟩
    have hj5 : j = 1 ∨ j = 2 ∨ j = 3 ∨ j = 4 ∨ j = 5 := by omega
    have key : ∀ q N, q * j = N → N = 60 → go' f k N = k := fun q N e _ => by rw [← e]; exact loop_at hj q
    rcases hj5 with rfl | rfl | rfl | rfl | rfl
    · exact key 60 60 (by decide) rfl
    · exact key 30 60 (by decide) rfl
    · exact key 20 60 (by decide) rfl
    · exact key 15 60 (by decide) rfl
    · exact key 12 60 (by decide) rfl
  · rintro ⟨i, hi, hk60⟩
    have hi' : (i : Int) < f.p := by omega
    have e60 : ∀ N, N = 60 → go' f k N = k := by
      intro N hN
      have h2 := go_60' hf hi' 60 120 rfl rfl
      have h3 := go_go f i 60 N
      rw [hk60, hN] at h3
      rw [hN, h3]
      exact (h2.symm).trans hk60
    obtain ⟨a, b, hab, hb, he⟩ := holes (n := f.p.toNat) (x := go' f k) (by omega) (by omega) (fun j => by have := go_lt hf hk j; omega)
    refine ⟨b - a, by omega, by omega, ?_⟩
    have h4 : go' f k (a + (60 - a)) = go' f k (b + (60 - a)) := by rw [← go_go, ← go_go, he]
    rw [show a + (60 - a) = 60 by omega, show b + (60 - a) = 60 + (b - a) by omega, ← go_go, e60 60 rfl] at h4
    exact h4.symm
def isCyc (f : M) (z : Int) : Bool := back f z.toNat f.p.toNat

theorem cyc_pts {f : M} (hf : Valid f) : pts (im (pw f 60) (pw f 60).p.toNat) = sel (isCyc f) f.p.toNat := by
  have h5 := hf.p5
  have hv := pw_valid hf 60
  have hp := pw_p f 60
  have key : ∀ k : Nat, (k : Int) < f.p → bq (im (pw f 60) (pw f 60).p.toNat) k = isCyc f k := by
    intro k hk
    rw [Bool.eq_iff_iff, bq_nat, im_bit, isCyc, Int.toNat_natCast, back_60 hf hk, hp]
    constructor
    · rintro ⟨i, hi, e⟩
      rw [pw_go hf (by omega) (by omega) 60, Int.toNat_natCast] at e
      exact ⟨i, hi, e⟩
    · rintro ⟨i, hi, e⟩
      refine ⟨i, hi, ?_⟩
      rw [pw_go hf (by omega) (by omega) 60, Int.toNat_natCast]
      exact e
  rw [pts, sel_far (n := f.p.toNat) (by omega) ?_, sel_ext fun k hk => key k (by omega)]
  intro k h1 h2
  rw [bq_nat, Bool.eq_false_iff]
  intro hb
  rw [im_bit] at hb
  obtain ⟨i, hi, e⟩ := hb
  rw [hp] at hi
  rw [pw_go hf (by omega) (by omega) 60, Int.toNat_natCast] at e
  have := go_lt hf (k := i) (by omega) 60
  rw [e] at this
  omega

end Go.Proofs.Ytkbfocoaobiijaa
