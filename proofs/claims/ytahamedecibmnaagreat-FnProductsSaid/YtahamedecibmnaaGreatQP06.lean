/- The generator of the draws runs through all of its states: plain numbers; no program in sight; no conditions beyond those that the theorems state. Contract of the source's next number that tells the state of its generator; no conditions beyond those that the theorems state. Contract of the damage that is done to a text; the text has fewer than 2^61 bytes. Contract of the draw of a text that may be damaged; it ends because the draws' generator runs through all of its states; the code has at most 4096 bytes. -/
import Derived.Test.YtahamedecibmnaaGreatQP05
set_option linter.unusedSimpArgs false
set_option linter.unusedVariables false
namespace Go.Proofs.YtahamedecibmnaaGreat
set_option maxRecDepth 100000
def itZ (a b : Int) : Nat → Int → Int
  | 0, u => u
  | n + 1, u => itZ a b n (a * u + b)
theorem itZ_add (a b : Int) : ∀ (m n : Nat) (u : Int), itZ a b (m + n) u = itZ a b n (itZ a b m u)
  | 0, n, u => by rw [Nat.zero_add]; rfl
  | m + 1, n, u => by rw [Nat.succ_add]; exact itZ_add a b m n (a * u + b)
theorem itZ_aff (a b : Int) : ∀ (n : Nat) (u x : Int), itZ a b n (u + x) = itZ a b n u + a ^ n * x
  | 0, u, x => by simp [itZ]
  | n + 1, u, x => by
    show itZ a b n (a * (u + x) + b) = itZ a b n (a * u + b) + a ^ (n + 1) * x
    have e : a * (u + x) + b = (a * u + b) + a * x := by rw [Int.mul_add]; omega
    rw [e, itZ_aff a b n, Int.pow_succ, Int.mul_assoc]
theorem pow_two_pow (c : Int) : ∀ k : Nat, ∃ e : Int, (1 + 4 * c) ^ (2 ^ k) = 1 + 2 ^ (k + 2) * e
  | 0 => ⟨c, by rw [Nat.pow_zero]; grind⟩
  | k + 1 => by
    obtain ⟨e, he⟩ := pow_two_pow c k
    refine ⟨e + 2 ^ (k + 1) * (e * e), ?_⟩
    have h1 : (2 : Nat) ^ (k + 1) = 2 ^ k + 2 ^ k := by rw [Nat.pow_succ]; omega
    rw [h1, Int.pow_add, he]
    have h2 : (2 : Int) ^ (k + 1 + 2) = 2 * 2 ^ (k + 2) := by rw [Int.pow_succ]; omega
    have h3 : (2 : Int) ^ (k + 2) = 2 * 2 ^ (k + 1) := by rw [Int.pow_succ]; omega
    rw [h2]
    generalize (2 : Int) ^ (k + 2) = p at *
    generalize (2 : Int) ^ (k + 1) = q at *
    subst h3
    grind
theorem itZ_two {c b : Int} (hb : b % 2 = 1) : ∀ (k : Nat) (u : Int), ∃ d : Int, itZ (1 + 4 * c) b (2 ^ k) u = u + 2 ^ k * (1 + 2 * d)
  | 0, u => by
    refine ⟨2 * (c * u) + (b - 1) / 2, ?_⟩
    have hb2 : 2 * ((b - 1) / 2) = b - 1 := by omega
    have e : itZ (1 + 4 * c) b (2 ^ 0) u = (1 + 4 * c) * u + b := rfl
    rw [e]
    generalize (b - 1) / 2 = x at *
    have : b = 2 * x + 1 := by omega
    subst this
    grind
  | k + 1, u => by
    obtain ⟨d, hd⟩ := itZ_two (c := c) hb k u
    obtain ⟨e, he⟩ := pow_two_pow c k
    have h1 : (2 : Nat) ^ (k + 1) = 2 ^ k + 2 ^ k := by rw [Nat.pow_succ]; omega
    rw [h1, itZ_add, hd, itZ_aff, he, hd]
    have h2 : (2 : Int) ^ (k + 1) = 2 * 2 ^ k := by rw [Int.pow_succ]; omega
    have h3 : (2 : Int) ^ (k + 2) = 4 * 2 ^ k := by rw [Int.pow_succ, Int.pow_succ]; omega
    rw [h2, h3]
    generalize (2 : Int) ^ k = p at *
    refine ⟨d + p * e * (1 + 2 * d), ?_⟩
    grind
theorem itZ_hit {c b : Int} (hb : b % 2 = 1) : ∀ (k : Nat) (u t : Int), ∃ n : Nat, n < 2 ^ k ∧ (2 : Int) ^ k ∣ itZ (1 + 4 * c) b n u - t
  | 0, u, t => ⟨0, by simp, by simp⟩
  | k + 1, u, t => by
    obtain ⟨n, hn, q, hq⟩ := itZ_hit (c := c) hb k u t
    have h2 : (2 : Int) ^ (k + 1) = 2 ^ k * 2 := Int.pow_succ _ _
    have h4 : (2 : Nat) ^ (k + 1) = 2 ^ k + 2 ^ k := by rw [Nat.pow_succ]; omega
    by_cases h : q % 2 = 0
    · refine ⟨n, by omega, q / 2, ?_⟩
      rw [h2, hq, Int.mul_assoc]
      congr 1; omega
    · obtain ⟨d, hd⟩ := itZ_two (c := c) hb k (itZ (1 + 4 * c) b n u)
      refine ⟨n + 2 ^ k, by omega, (q + 1 + 2 * d) / 2, ?_⟩
      rw [itZ_add, hd, h2]
      have h3 : 2 * ((q + 1 + 2 * d) / 2) = q + 1 + 2 * d := by omega
      generalize (q + 1 + 2 * d) / 2 = x at *
      generalize (2 : Int) ^ k = p at *
      generalize itZ (1 + 4 * c) b n u = y at *
      grind
def lcg (h : Nat) : Nat := (h * 6364136223846793005 + 1442695040888963407) % 18446744073709551616
def vlc (h : Nat) : Nat := h / 8589934592 % 16777216
def ccL : Int := 10125557468919729450681024655829232506
def bpL (p : Nat) : Int := if p = 0 then 4590753884842791104912924998318765721 else 24841868822682250006274974309977230733
theorem bpL_odd (p : Nat) : bpL p % 2 = 1 := by unfold bpL; split <;> decide
theorem two_aux {h r x q1 q2 : Nat} (hq1 : h * 6364136223846793005 + 1442695040888963407 = 18446744073709551616 * q1 + r) (hq2 : r * 6364136223846793005 + 1442695040888963407 = 18446744073709551616 * q2 + x) : x % 2 = h % 2 := by omega
theorem two_auxI (h r x q1 q2 : Int) (hq1 : h * 6364136223846793005 + 1442695040888963407 = 18446744073709551616 * q1 + r) (hq2 : r * 6364136223846793005 + 1442695040888963407 = 18446744073709551616 * q2 + x) :
    x = 40502229875678917802724098623316930025 * h + 9181507769685582209825849996637531442 - 18446744073709551616 * (q1 * 6364136223846793005 + q2) := by omega
theorem two_0 (u v q : Int) (h : 2 * v = 40502229875678917802724098623316930025 * (2 * u) + 9181507769685582209825849996637531442 - 18446744073709551616 * q) : v = 40502229875678917802724098623316930025 * u + 4590753884842791104912924998318765721 + 9223372036854775808 * -q := by omega
theorem two_1 (u v q : Int) (h : 2 * v + 1 = 40502229875678917802724098623316930025 * (2 * u + 1) + 9181507769685582209825849996637531442 - 18446744073709551616 * q) : v = 40502229875678917802724098623316930025 * u + 24841868822682250006274974309977230733 + 9223372036854775808 * -q := by omega
theorem ccL_A2 : 1 + 4 * ccL = 40502229875678917802724098623316930025 := by decide
theorem lcg_eq (k : Nat) : lcg k = (k * 6364136223846793005 + 1442695040888963407) % 18446744073709551616 := by unfold lcg; exact Eq.refl _
theorem lcg_two {h : Nat} : lcg (lcg h) % 2 = h % 2 ∧ ∃ z : Int, ((lcg (lcg h) / 2 : Nat) : Int) = (1 + 4 * ccL) * ((h / 2 : Nat) : Int) + bpL (h % 2) + 9223372036854775808 * z := by
  rw [ccL_A2]
  have hr := lcg_eq h
  have hx := lcg_eq (lcg h)
  generalize lcg (lcg h) = x at *
  generalize lcg h = r at *
  obtain ⟨q1, hq1⟩ : ∃ q1, h * 6364136223846793005 + 1442695040888963407 = 18446744073709551616 * q1 + r := ⟨_, by rw [hr]; exact (Nat.div_add_mod _ _).symm⟩
  obtain ⟨q2, hq2⟩ : ∃ q2, r * 6364136223846793005 + 1442695040888963407 = 18446744073709551616 * q2 + x := ⟨_, by rw [hx]; exact (Nat.div_add_mod _ _).symm⟩
  clear hr hx
  have hpar := two_aux hq1 hq2
  have hI := two_auxI h r x q1 q2 (by omega) (by omega)
  clear hq1 hq2
  refine ⟨hpar, -((q1 : Int) * 6364136223846793005 + q2), ?_⟩
  obtain ⟨q, hq⟩ : ∃ q, q = (q1 : Int) * 6364136223846793005 + q2 := ⟨_, rfl⟩
  rw [← hq] at hI ⊢
  clear hq
  rcases (by omega : h % 2 = 0 ∨ h % 2 = 1) with e | e
  · have eh : (h : Int) = 2 * ((h / 2 : Nat) : Int) := by omega
    have ex : (x : Int) = 2 * ((x / 2 : Nat) : Int) := by omega
    rw [eh, ex] at hI
    rw [e]
    exact two_0 _ _ _ hI
  · have eh : (h : Int) = 2 * ((h / 2 : Nat) : Int) + 1 := by omega
    have ex : (x : Int) = 2 * ((x / 2 : Nat) : Int) + 1 := by omega
    rw [eh, ex] at hI
    rw [e]
    exact two_1 _ _ _ hI
theorem lcg_good {h : Nat} (hu : (h / 2) % 72057594037927936 = 0) : vlc (lcg h) % 3 ≠ 0 ∧ vlc (lcg (lcg (lcg h))) % 3 ≠ 0 := by
  obtain ⟨m, hm⟩ : ∃ m, h = h % 2 + 144115188075855872 * m := ⟨h / 2 / 72057594037927936, by omega⟩
  obtain ⟨r, hr⟩ : ∃ r, r = lcg h := ⟨_, rfl⟩
  obtain ⟨x, hx⟩ : ∃ x, x = lcg r := ⟨_, rfl⟩
  obtain ⟨y, hy⟩ : ∃ y, y = lcg x := ⟨_, rfl⟩
  rw [← hr, ← hx, ← hy]
  unfold lcg at hr hx hy
  unfold vlc
  have e1 : r % 144115188075855872 = (h % 2 * 6364136223846793005 + 1442695040888963407) % 144115188075855872 := by omega
  have e2 : x % 144115188075855872 = (r % 144115188075855872 * 6364136223846793005 + 1442695040888963407) % 144115188075855872 := by omega
  have e3 : y % 144115188075855872 = (x % 144115188075855872 * 6364136223846793005 + 1442695040888963407) % 144115188075855872 := by omega
  clear hr hx hy hm hu
  have aux : ∀ k : Nat, k / 8589934592 % 16777216 = k % 144115188075855872 / 8589934592 := fun k => (Nat.mod_mul_right_div_self k 8589934592 16777216).symm
  have a1 := aux r
  have a3 := aux y
  rw [a1, a3, e3, e2, e1]
  rcases (by omega : h % 2 = 0 ∨ h % 2 = 1) with h | h
  · rw [h]; decide
  · rw [h]; decide
def hitB (h n : Nat) : Bool := decide ((72057594037927936 : Int) ∣ itZ (1 + 4 * ccL) (bpL (h % 2)) n ((h / 2 : Nat) : Int))
def distL (h : Nat) : Nat := fk (hitB h) (2 ^ 56)
theorem distL_hit (h : Nat) : distL h < 2 ^ 56 ∧ hitB h (distL h) = true ∧ ∀ j, j < distL h → hitB h j = false := by
  rcases fk_cases (hitB h) (2 ^ 56) with hc | ⟨_, hn⟩
  · exact hc
  · obtain ⟨n, hn1, hn2⟩ := itZ_hit (c := ccL) (bpL_odd (h % 2)) 56 ((h / 2 : Nat) : Int) 0
    have := hn n hn1
    unfold hitB at this
    rw [Int.sub_zero] at hn2
    have e : (2 : Int) ^ 56 = 72057594037927936 := by decide
    rw [e] at hn2
    rw [decide_eq_true hn2] at this
    cases this
theorem hitB_two (h n : Nat) : hitB (lcg (lcg h)) n = hitB h (n + 1) := by
  obtain ⟨e1, z, e2⟩ := lcg_two (h := h)
  unfold hitB
  rw [e1, e2]
  show decide _ = decide ((72057594037927936 : Int) ∣ itZ (1 + 4 * ccL) (bpL (h % 2)) n ((1 + 4 * ccL) * ((h / 2 : Nat) : Int) + bpL (h % 2)))
  rw [itZ_aff]
  generalize itZ (1 + 4 * ccL) (bpL (h % 2)) n ((1 + 4 * ccL) * ((h / 2 : Nat) : Int) + bpL (h % 2)) = y
  have hd : (72057594037927936 : Int) ∣ (1 + 4 * ccL) ^ n * (9223372036854775808 * z) := ⟨(1 + 4 * ccL) ^ n * (128 * z), by generalize (1 + 4 * ccL) ^ n = w; grind⟩
  rw [Bool.eq_iff_iff, decide_eq_true_eq, decide_eq_true_eq]
  exact ⟨fun h => by have := Int.dvd_sub h hd; rwa [Int.add_sub_cancel] at this, fun h => Int.dvd_add h hd⟩
theorem hitB_zero {h : Nat} (hh : hitB h 0 = true) : (h / 2) % 72057594037927936 = 0 := by
  unfold hitB at hh
  rw [decide_eq_true_eq] at hh
  have hh : (72057594037927936 : Int) ∣ ((h / 2 : Nat) : Int) := hh
  omega
theorem distL_zero {h : Nat} (hd : distL h = 0) : vlc (lcg h) % 3 ≠ 0 ∧ vlc (lcg (lcg (lcg h))) % 3 ≠ 0 := by
  have := (distL_hit h).2.1
  rw [hd] at this
  exact lcg_good (hitB_zero this)
theorem distL_two {h : Nat} {d : Nat} (hd : distL h = d + 1) : distL (lcg (lcg h)) ≤ d := by
  have h1 := (distL_hit h).2.1
  rw [hd, ← hitB_two] at h1
  rcases Nat.lt_or_ge d (distL (lcg (lcg h))) with hlt | hge
  · have := (distL_hit (lcg (lcg h))).2.2 d hlt
    rw [h1] at this; cases this
  · exact hge
def pastB (h : Nat) : Bool := decide (vlc (lcg h) % 3 ≠ 0)
def muL (h : Nat) : Nat := if pastB h then 0 else distL h + 1
theorem muL_le (h : Nat) : muL h ≤ 2 ^ 56 := by
  unfold muL
  have := (distL_hit h).1
  split
  · exact Nat.zero_le _
  · omega
theorem muL_pos {h : Nat} (hb : vlc (lcg h) % 3 = 0) : muL (lcg (lcg h)) < muL h ∧ muL (lcg (lcg (lcg (lcg h)))) < muL h := by
  have hp : pastB h = false := by unfold pastB; simp [hb]
  have hm : muL h = distL h + 1 := by unfold muL; rw [hp]; rfl
  cases hd : distL h with
  | zero => exact absurd hb (distL_zero hd).1
  | succ d =>
    have h2 := distL_two hd
    have le1 : ∀ k, muL k ≤ distL k + 1 := fun k => by unfold muL; split <;> omega
    have m2 := le1 (lcg (lcg h))
    rw [hm, hd]
    refine ⟨by omega, ?_⟩
    cases hd2 : distL (lcg (lcg h)) with
    | zero =>
      have h4 := (distL_zero hd2).2
      have hp4 : pastB (lcg (lcg (lcg (lcg h)))) = true := by unfold pastB; exact decide_eq_true h4
      have : muL (lcg (lcg (lcg (lcg h)))) = 0 := by unfold muL; rw [if_pos hp4]
      omega
    | succ d2 =>
      have h3 := distL_two hd2
      have m4 := le1 (lcg (lcg (lcg (lcg h))))
      omega
end Go.Proofs.YtahamedecibmnaaGreat

namespace Go.Proofs.YtahamedecibmnaaGreat
open Go.RowKit
set_option maxRecDepth 100000
set_option linter.unusedSimpArgs false
set_option linter.unusedVariables false
theorem wrap_lcg (h : Nat) : IntKind.u64.wrap (IntKind.u64.wrap ((h : Int) * 6364136223846793005) + 1442695040888963407) = ((lcg h : Nat) : Int) := by
  rw [u64_mod, u64_mod, Int.emod_add_emod, lcg_eq]
  rfl
theorem lcg_lt (h : Nat) : lcg h < 18446744073709551616 := by
  rw [lcg_eq]; exact Nat.mod_lt _ (by decide)
theorem and_vlc {h : Nat} (hh : h < 18446744073709551616) : bits .and .u64 ((h : Int) / 8589934592) 16777215 = ((vlc h : Nat) : Int) := by
  have h1 : ((h : Int) / 8589934592) = ((h / 8589934592 : Nat) : Int) := by rw [Int.natCast_ediv]; rfl
  have h2 := (bits_nat .u64 64 (by decide) (fun n h0 h1 => IntWalk.u64_in n ⟨h0, by omega⟩) (h / 8589934592) 16777215 (by omega) (by decide)).1
  have h3 : (h / 8589934592) &&& 16777215 = vlc h := by
    have := Nat.and_two_pow_sub_one_eq_mod (h / 8589934592) 24
    exact this
  rw [h1, ← h3]; exact h2
theorem vlc_lt (h : Nat) : vlc h < 16777216 := by unfold vlc; exact Nat.mod_lt _ (by decide)
structure SrcH (w : World) (s : Nat) (A : Option Addr) (n c : Nat) (zs : List Int) (a h : Nat) : Prop where
  blk : Blk w s TSrc #[.slice A n c, I a, .int .u64 h]
  an : a ≤ n
  hh : h < 18446744073709551616
  code : RdU w s A zs
  len : zs.length = n
  nb : n < 4611686018427387904
section
variable {w w' : World} {s : Nat} {A : Option Addr} {n c : Nat} {zs : List Int} {a h : Nat}
theorem SrcH.src (x : SrcH w s A n c zs a h) : Src w s A n c zs := ⟨⟨a, h, x.an, x.hh, x.blk⟩, x.code, x.len, x.nb⟩
theorem Src.toH (x : Src w s A n c zs) : ∃ a h, SrcH w s A n c zs a h := by
  obtain ⟨a, h, h1, h2, hb⟩ := x.blk
  exact ⟨a, h, hb, h1, h2, x.code, x.len, x.nb⟩
theorem SrcH.lt (x : SrcH w s A n c zs a h) : s < w.heap.size := x.blk.lt
theorem SrcH.below (x : SrcH w s A n c zs a h) (hb : Below w.heap.size w w') : SrcH w' s A n c zs a h :=
  ⟨x.blk.below hb x.blk.lt, x.an, x.hh, x.code.below (hb.mono (Nat.le_of_lt x.lt)), x.len, x.nb⟩
end
def RetNH (s : Nat) (A : Option Addr) (n c : Nat) (zs : List Int) (a h : Nat) (k : Int) (w : World) (e : Ending) (w' : World) : Prop :=
  ∃ (r : Int) (a' : Nat), e = .returned (I r) ∧ 0 ≤ r ∧ r < k ∧ (a < n → a' = a + 1) ∧ (a = n → a' = a ∧ r = ((vlc (lcg h) : Nat) : Int) % k) ∧ SrcH w' s A n c zs a' (lcg h) ∧ w.grownBy w' (some s)
set_option maxHeartbeats 2000000 in
theorem nextH_any {s : Nat} {A : Option Addr} {n c : Nat} {zs : List Int} {a h : Nat} (k : Int) (hkk : 1 ≤ k) (w : World) (hS : SrcH w s A n c zs a h) :
    Calls Tryz.prog 56 #[.pointer (some ⟨s, 0, none⟩), I k] w (RetNH s A n c zs a h k w) := by
  have hbl := hS.blk
  have ha := hS.an
  have hh := hS.hh
  have hc := hS.code
  have hl := hS.len
  have Hnb := Lib.hid hS.nb
  have c0 := hbl.cell 0
  have c1 := hbl.cell 1
  have c2 := hbl.cell 2
  have z2 := hbl.frozen 2
  simp only [List.getElem?_toArray, List.getElem?_cons_zero, List.getElem?_cons_succ] at c0 c1 c2
  have HS := Lib.hid hS
  have Hbl := Lib.hid hbl
  clear hS hbl
  have hk : ¬ k < 1 := by omega
  obtain ⟨h2, eh2⟩ : ∃ h2, h2 = lcg h := ⟨_, rfl⟩
  have e1 := wrap_lcg h
  rw [← eh2] at e1
  have hh2 : h2 < 18446744073709551616 := by rw [eh2]; exact lcg_lt h
  obtain ⟨x, ex⟩ : ∃ x, x = vlc h2 := ⟨_, rfl⟩
  have e2 := and_vlc hh2
  rw [← ex] at e2
  have hx : x < 16777216 := by rw [ex]; exact vlc_lt h2
  have e3 : wrap64 (x : Int) = (x : Int) := IntWalk.wrap64_in _ ⟨by omega, by omega⟩
  obtain ⟨w1, hw1⟩ : ∃ w1, w1 = w.setCell ⟨s, 2, none⟩ (.int .u64 h2) := ⟨_, rfl⟩
  have b1 : Blk w1 s TSrc #[.slice A n c, I a, .int .u64 h2] := by rw [hw1]; exact Hbl.out.set_ 2 _
  have l1 := b1.lt
  have B1 := Lib.hid b1
  have Hc := Lib.hid hc
  have Hl := Lib.hid hl
  have Hex := Lib.hid ex
  have Heh2 := Lib.hid eh2
  have Hg1 : Hid (w.grownBy w1 (some s)) := by show World.grownBy _ _ _; rw [hw1]; exact grown_set w _ _
  have Hw1 := Lib.hid hw1
  have hs1 : s ≤ w.heap.size := Nat.le_of_lt HS.out.lt
  clear hw1 b1 hc hl ex eh2
  by_cases han : a < n
  · have hanz : (a : Int) < (n : Int) := by omega
    go_enter Tryz.func56, Tryz.ntmps56
    go_wp2_with fail
    rw [← Hw1.out]
    refine wp_region_same [] rfl (by kernel_rfl) (by kernel_rfl) (by kernel_rfl) (fun w' => Below w1.heap.size w1 w') _
      [.pointer (some ⟨s, 0, none⟩), .pointer (some ⟨s, 0, none⟩), .pointer (some ⟨s, 1, none⟩), I a, .pointer (some ⟨s, 0, none⟩), .pointer (some ⟨s, 0, none⟩), .pointer (some ⟨s, 0, none⟩), .slice A n c, I n, .bool true]
      (by simp only [putAll, List.setIfInBounds_toArray, List.set_cons_succ, List.set_cons_zero]; rfl) (Below.refl _ _).drew ?hop ?hQ
    case hop =>
      refine FixBL.toL (fun w' w'' hS hb => hS.trans (hb.mono hS.size)) _ _ ?_
      refine ⟨.inr ?_, .inr ?_, .inr ?_, .inr ?_, .inr ?_, .inr ?_, .inr ?_, .inr ?_, .inr ?_, .inr ?_, trivial⟩
      · (with_reducible refine FixB.of ?_ ?_; rfl; intro w' hS; have s9 := B1.out.below hS l1; have s0 := s9.cell 0; have s1 := s9.cell 1; simp only [List.getElem?_toArray, List.getElem?_cons_zero, List.getElem?_cons_succ] at s0 s1; clear s9 hS; unfold Oper.wp; go_simp; first | done | exact Below.refl _ _)
      · (with_reducible refine FixB.of ?_ ?_; rfl; intro w' hS; have s9 := B1.out.below hS l1; have s0 := s9.cell 0; have s1 := s9.cell 1; simp only [List.getElem?_toArray, List.getElem?_cons_zero, List.getElem?_cons_succ] at s0 s1; clear s9 hS; unfold Oper.wp; go_simp; first | done | exact Below.refl _ _)
      · (with_reducible refine FixB.of ?_ ?_; rfl; intro w' hS; have s9 := B1.out.below hS l1; have s0 := s9.cell 0; have s1 := s9.cell 1; simp only [List.getElem?_toArray, List.getElem?_cons_zero, List.getElem?_cons_succ] at s0 s1; clear s9 hS; unfold Oper.wp; go_simp; first | done | exact Below.refl _ _)
      · (with_reducible refine FixB.of ?_ ?_; rfl; intro w' hS; have s9 := B1.out.below hS l1; have s0 := s9.cell 0; have s1 := s9.cell 1; simp only [List.getElem?_toArray, List.getElem?_cons_zero, List.getElem?_cons_succ] at s0 s1; clear s9 hS; unfold Oper.wp; go_simp; first | done | exact Below.refl _ _)
      · (with_reducible refine FixB.of ?_ ?_; rfl; intro w' hS; have s9 := B1.out.below hS l1; have s0 := s9.cell 0; have s1 := s9.cell 1; simp only [List.getElem?_toArray, List.getElem?_cons_zero, List.getElem?_cons_succ] at s0 s1; clear s9 hS; unfold Oper.wp; go_simp; first | done | exact Below.refl _ _)
      · (with_reducible refine FixB.of ?_ ?_; rfl; intro w' hS; have s9 := B1.out.below hS l1; have s0 := s9.cell 0; have s1 := s9.cell 1; simp only [List.getElem?_toArray, List.getElem?_cons_zero, List.getElem?_cons_succ] at s0 s1; clear s9 hS; unfold Oper.wp; go_simp; first | done | exact Below.refl _ _)
      · (with_reducible refine FixB.of ?_ ?_; rfl; intro w' hS; have s9 := B1.out.below hS l1; have s0 := s9.cell 0; have s1 := s9.cell 1; simp only [List.getElem?_toArray, List.getElem?_cons_zero, List.getElem?_cons_succ] at s0 s1; clear s9 hS; unfold Oper.wp; go_simp; first | done | exact Below.refl _ _)
      · (with_reducible refine FixB.of ?_ ?_; rfl; intro w' hS; have s9 := B1.out.below hS l1; have s0 := s9.cell 0; have s1 := s9.cell 1; simp only [List.getElem?_toArray, List.getElem?_cons_zero, List.getElem?_cons_succ] at s0 s1; clear s9 hS; unfold Oper.wp; go_simp; first | done | exact Below.refl _ _)
      · (with_reducible refine FixB.of ?_ ?_; rfl; intro w' hS; have s9 := B1.out.below hS l1; have s0 := s9.cell 0; have s1 := s9.cell 1; simp only [List.getElem?_toArray, List.getElem?_cons_zero, List.getElem?_cons_succ] at s0 s1; clear s9 hS; unfold Oper.wp; go_simp; first | done | exact Below.refl _ _)
      · (with_reducible refine FixB.of ?_ ?_; rfl; intro w' hS; have s9 := B1.out.below hS l1; have s0 := s9.cell 0; have s1 := s9.cell 1; simp only [List.getElem?_toArray, List.getElem?_cons_zero, List.getElem?_cons_succ] at s0 s1; clear s9 hS; unfold Oper.wp; go_simp; first | done | exact Below.refl _ _)
    case hQ =>
    intro wc hS _
    have HB2 := Lib.hid hS
    clear hS
    obtain ⟨w2, hw2⟩ : ∃ w2, w2 = wc := ⟨_, rfl⟩
    rw [← hw2] at HB2 ⊢
    have hg2 : w.grownBy w2 (some s) := grown_trans Hg1.out (grown_below HB2.out _)
    have b2 := B1.out.below HB2.out l1
    have l2 := b2.lt
    have hcod := Hc.out.below (bel_s hg2 hs1)
    obtain ⟨b, off, rfl, hbs, hcz⟩ := hcod.at_ (k := a) (by rw [Hl.out]; exact han)
    have hzv := hcod.val (k := a) (by rw [Hl.out]; exact han)
    have lb : b < w2.heap.size := by omega
    obtain ⟨z, hz⟩ : ∃ z, z = gi zs a := ⟨_, rfl⟩
    rw [← hz] at hcz hzv
    obtain ⟨y, hy⟩ : ∃ y : Int, y = (x : Int) + z := ⟨_, rfl⟩
    have hyy : (x : Int) + z = y := hy.symm
    have hy0 : 0 ≤ y := by omega
    have hyb : y < 16777472 := by omega
    have hwz : IntKind.i64.wrap z = z := IntWalk.i64_in _ ⟨by omega, by omega⟩
    have hwy : IntKind.i64.wrap y = y := IntWalk.i64_in _ ⟨by omega, by omega⟩
    have Cz := Lib.hid hcz
    have B2 := Lib.hid b2
    have Hg2 := Lib.hid hg2
    clear hw2 hcz b2 hcod hz hy hg2
    go_wp2_with fail
    refine wp_region_sameX [] rfl (by kernel_rfl) (by kernel_rfl) [5] (by kernel_rfl) (fun w' => Below w2.heap.size w2 w') _
      [I x, .pointer (some ⟨s, 0, none⟩), .pointer (some ⟨s, 0, none⟩), .pointer (some ⟨s, 0, none⟩), .slice (some ⟨b, off, none⟩) n c, .pointer (some ⟨s, 0, none⟩), .pointer (some ⟨s, 0, none⟩), .pointer (some ⟨s, 1, none⟩), I a, .pointer (some ⟨b, off + a, none⟩), .int .u8 z, I z, I y, I y]
      (by simp only [putAll, List.setIfInBounds_toArray, List.set_cons_succ, List.set_cons_zero]; rfl) [(5, I x)] rfl _
      (by simp only [setAll, List.setIfInBounds_toArray, List.set_cons_succ, List.set_cons_zero]; rfl) (by kernel_rfl) (fun w' w'' hS hb => hS.trans (hb.mono hS.size)) (Below.refl _ _).drew ?hop ?hQ
    case hop =>
      refine ⟨?_, ?_, ?_, ?_, ?_, ?_, ?_, ?_, ?_, ?_, ?_, ?_, ?_, ?_, trivial⟩
      · (refine FixX.of (by first | rfl | kernel_rfl | (simp [Region.wanted, yielded]; done)) ?_; intro w' hS; have s9 := B2.out.below hS l2; have s0 := s9.cell 0; have s1 := s9.cell 1; simp only [List.getElem?_toArray, List.getElem?_cons_zero, List.getElem?_cons_succ] at s0 s1; have s2 := (hS.cell (p := ⟨b, off + a, none⟩) lb).trans Cz.out; clear s9 hS; unfold Oper.wp; go_simp; first | done | exact Below.refl _ _ | exact ⟨rfl, Below.refl _ _⟩ | exact ⟨rfl, (fun t ht => by injection ht with ht; subst ht; rfl), Below.refl _ _⟩)
      · (refine FixX.of (by first | rfl | kernel_rfl | (simp [Region.wanted, yielded]; done)) ?_; intro w' hS; have s9 := B2.out.below hS l2; have s0 := s9.cell 0; have s1 := s9.cell 1; simp only [List.getElem?_toArray, List.getElem?_cons_zero, List.getElem?_cons_succ] at s0 s1; have s2 := (hS.cell (p := ⟨b, off + a, none⟩) lb).trans Cz.out; clear s9 hS; unfold Oper.wp; go_simp; first | done | exact Below.refl _ _ | exact ⟨rfl, Below.refl _ _⟩ | exact ⟨rfl, (fun t ht => by injection ht with ht; subst ht; rfl), Below.refl _ _⟩)
      · (refine FixX.of (by first | rfl | kernel_rfl | (simp [Region.wanted, yielded]; done)) ?_; intro w' hS; have s9 := B2.out.below hS l2; have s0 := s9.cell 0; have s1 := s9.cell 1; simp only [List.getElem?_toArray, List.getElem?_cons_zero, List.getElem?_cons_succ] at s0 s1; have s2 := (hS.cell (p := ⟨b, off + a, none⟩) lb).trans Cz.out; clear s9 hS; unfold Oper.wp; go_simp; first | done | exact Below.refl _ _ | exact ⟨rfl, Below.refl _ _⟩ | exact ⟨rfl, (fun t ht => by injection ht with ht; subst ht; rfl), Below.refl _ _⟩)
      · (refine FixX.of (by first | rfl | kernel_rfl | (simp [Region.wanted, yielded]; done)) ?_; intro w' hS; have s9 := B2.out.below hS l2; have s0 := s9.cell 0; have s1 := s9.cell 1; simp only [List.getElem?_toArray, List.getElem?_cons_zero, List.getElem?_cons_succ] at s0 s1; have s2 := (hS.cell (p := ⟨b, off + a, none⟩) lb).trans Cz.out; clear s9 hS; unfold Oper.wp; go_simp; first | done | exact Below.refl _ _ | exact ⟨rfl, Below.refl _ _⟩ | exact ⟨rfl, (fun t ht => by injection ht with ht; subst ht; rfl), Below.refl _ _⟩)
      · (refine FixX.of (by first | rfl | kernel_rfl | (simp [Region.wanted, yielded]; done)) ?_; intro w' hS; have s9 := B2.out.below hS l2; have s0 := s9.cell 0; have s1 := s9.cell 1; simp only [List.getElem?_toArray, List.getElem?_cons_zero, List.getElem?_cons_succ] at s0 s1; have s2 := (hS.cell (p := ⟨b, off + a, none⟩) lb).trans Cz.out; clear s9 hS; unfold Oper.wp; go_simp; first | done | exact Below.refl _ _ | exact ⟨rfl, Below.refl _ _⟩ | exact ⟨rfl, (fun t ht => by injection ht with ht; subst ht; rfl), Below.refl _ _⟩)
      · (refine FixX.of (by first | rfl | kernel_rfl | (simp [Region.wanted, yielded]; done)) ?_; intro w' hS; have s9 := B2.out.below hS l2; have s0 := s9.cell 0; have s1 := s9.cell 1; simp only [List.getElem?_toArray, List.getElem?_cons_zero, List.getElem?_cons_succ] at s0 s1; have s2 := (hS.cell (p := ⟨b, off + a, none⟩) lb).trans Cz.out; clear s9 hS; unfold Oper.wp; go_simp; first | done | exact Below.refl _ _ | exact ⟨rfl, Below.refl _ _⟩ | exact ⟨rfl, (fun t ht => by injection ht with ht; subst ht; rfl), Below.refl _ _⟩)
      · (refine FixX.of (by first | rfl | kernel_rfl | (simp [Region.wanted, yielded]; done)) ?_; intro w' hS; have s9 := B2.out.below hS l2; have s0 := s9.cell 0; have s1 := s9.cell 1; simp only [List.getElem?_toArray, List.getElem?_cons_zero, List.getElem?_cons_succ] at s0 s1; have s2 := (hS.cell (p := ⟨b, off + a, none⟩) lb).trans Cz.out; clear s9 hS; unfold Oper.wp; go_simp; first | done | exact Below.refl _ _ | exact ⟨rfl, Below.refl _ _⟩ | exact ⟨rfl, (fun t ht => by injection ht with ht; subst ht; rfl), Below.refl _ _⟩)
      · (refine FixX.of (by first | rfl | kernel_rfl | (simp [Region.wanted, yielded]; done)) ?_; intro w' hS; have s9 := B2.out.below hS l2; have s0 := s9.cell 0; have s1 := s9.cell 1; simp only [List.getElem?_toArray, List.getElem?_cons_zero, List.getElem?_cons_succ] at s0 s1; have s2 := (hS.cell (p := ⟨b, off + a, none⟩) lb).trans Cz.out; clear s9 hS; unfold Oper.wp; go_simp; first | done | exact Below.refl _ _ | exact ⟨rfl, Below.refl _ _⟩ | exact ⟨rfl, (fun t ht => by injection ht with ht; subst ht; rfl), Below.refl _ _⟩)
      · (refine FixX.of (by first | rfl | kernel_rfl | (simp [Region.wanted, yielded]; done)) ?_; intro w' hS; have s9 := B2.out.below hS l2; have s0 := s9.cell 0; have s1 := s9.cell 1; simp only [List.getElem?_toArray, List.getElem?_cons_zero, List.getElem?_cons_succ] at s0 s1; have s2 := (hS.cell (p := ⟨b, off + a, none⟩) lb).trans Cz.out; clear s9 hS; unfold Oper.wp; go_simp; first | done | exact Below.refl _ _ | exact ⟨rfl, Below.refl _ _⟩ | exact ⟨rfl, (fun t ht => by injection ht with ht; subst ht; rfl), Below.refl _ _⟩)
      · (refine FixX.of (by first | rfl | kernel_rfl | (simp [Region.wanted, yielded]; done)) ?_; intro w' hS; have s9 := B2.out.below hS l2; have s0 := s9.cell 0; have s1 := s9.cell 1; simp only [List.getElem?_toArray, List.getElem?_cons_zero, List.getElem?_cons_succ] at s0 s1; have s2 := (hS.cell (p := ⟨b, off + a, none⟩) lb).trans Cz.out; clear s9 hS; unfold Oper.wp; go_simp; first | done | exact Below.refl _ _ | exact ⟨rfl, Below.refl _ _⟩ | exact ⟨rfl, (fun t ht => by injection ht with ht; subst ht; rfl), Below.refl _ _⟩)
      · (refine FixX.of (by first | rfl | kernel_rfl | (simp [Region.wanted, yielded]; done)) ?_; intro w' hS; have s9 := B2.out.below hS l2; have s0 := s9.cell 0; have s1 := s9.cell 1; simp only [List.getElem?_toArray, List.getElem?_cons_zero, List.getElem?_cons_succ] at s0 s1; have s2 := (hS.cell (p := ⟨b, off + a, none⟩) lb).trans Cz.out; clear s9 hS; unfold Oper.wp; go_simp; first | done | exact Below.refl _ _ | exact ⟨rfl, Below.refl _ _⟩ | exact ⟨rfl, (fun t ht => by injection ht with ht; subst ht; rfl), Below.refl _ _⟩)
      · (refine FixX.of (by first | rfl | kernel_rfl | (simp [Region.wanted, yielded]; done)) ?_; intro w' hS; have s9 := B2.out.below hS l2; have s0 := s9.cell 0; have s1 := s9.cell 1; simp only [List.getElem?_toArray, List.getElem?_cons_zero, List.getElem?_cons_succ] at s0 s1; have s2 := (hS.cell (p := ⟨b, off + a, none⟩) lb).trans Cz.out; clear s9 hS; unfold Oper.wp; go_simp; first | done | exact Below.refl _ _ | exact ⟨rfl, Below.refl _ _⟩ | exact ⟨rfl, (fun t ht => by injection ht with ht; subst ht; rfl), Below.refl _ _⟩)
      · (refine FixX.of (by first | rfl | kernel_rfl | (simp [Region.wanted, yielded]; done)) ?_; intro w' hS; have s9 := B2.out.below hS l2; have s0 := s9.cell 0; have s1 := s9.cell 1; simp only [List.getElem?_toArray, List.getElem?_cons_zero, List.getElem?_cons_succ] at s0 s1; have s2 := (hS.cell (p := ⟨b, off + a, none⟩) lb).trans Cz.out; clear s9 hS; unfold Oper.wp; go_simp; first | done | exact Below.refl _ _ | exact ⟨rfl, Below.refl _ _⟩ | exact ⟨rfl, (fun t ht => by injection ht with ht; subst ht; rfl), Below.refl _ _⟩)
      · (refine FixX.of (by first | rfl | kernel_rfl | (simp [Region.wanted, yielded]; done)) ?_; intro w' hS; have s9 := B2.out.below hS l2; have s0 := s9.cell 0; have s1 := s9.cell 1; simp only [List.getElem?_toArray, List.getElem?_cons_zero, List.getElem?_cons_succ] at s0 s1; have s2 := (hS.cell (p := ⟨b, off + a, none⟩) lb).trans Cz.out; clear s9 hS; unfold Oper.wp; go_simp; first | done | exact Below.refl _ _ | exact ⟨rfl, Below.refl _ _⟩ | exact ⟨rfl, (fun t ht => by injection ht with ht; subst ht; rfl), Below.refl _ _⟩)
    case hQ =>
    intro wc hS
    have HB3 := Lib.hid hS
    clear hS
    have b3 := B2.out.below HB3.out l2
    have c1 := b3.cell 1
    have z1 := b3.frozen 1
    simp only [List.getElem?_toArray, List.getElem?_cons_zero, List.getElem?_cons_succ] at c1
    have B3 := Lib.hid b3
    have Hg3 := Lib.hid (grown_trans Hg2.out (grown_below HB3.out _))
    obtain ⟨r, hr⟩ : ∃ r, y.tmod k = r := ⟨_, rfl⟩
    have hr0 : 0 ≤ r ∧ r < k := by rw [← hr]; exact ⟨Int.tmod_nonneg k hy0, Int.tmod_lt_of_pos y (by omega)⟩
    clear b3
    have hry : r ≤ y := by
      rw [← hr, Int.tmod_eq_emod_of_nonneg hy0]
      by_cases e : k ≤ y
      · have := Int.emod_lt_of_pos y (show 0 < k by omega)
        omega
      · rw [Int.emod_eq_of_lt hy0 (by omega)]; exact Int.le_refl _
    have hwr : IntKind.i64.wrap r = r := IntWalk.i64_in _ ⟨by omega, by omega⟩
    have hk0 : ¬ (k = 0) := by omega
    have hwa : wrap64 ((a : Int) + 1) = (a : Int) + 1 := IntWalk.wrap64_in _ (by have := Hnb.out; exact ⟨by omega, by omega⟩)
    have hb4 : Blk (wc.setCell ⟨s, 1, none⟩ (I ((a : Int) + 1))) s TSrc #[.slice (some ⟨b, off, none⟩) n c, I ((a + 1 : Nat) : Int), .int .u64 h2] := (B3.out.set_ 1 (I ((a : Int) + 1))).cast (by simp only [List.setIfInBounds_toArray, List.set_cons_succ, List.set_cons_zero]; rw [show ((a : Int) + 1) = ((a + 1 : Nat) : Int) by omega])
    have Hb4 := Lib.hid hb4
    clear hb4 hyb hy0 hzv hyy hry
    have Hg4 := Lib.hid (grown_trans Hg3.out (grown_set wc ⟨s, 1, none⟩ (I ((a : Int) + 1))))
    go_wp2_with fail
    go_ret
    refine ⟨r, a + 1, rfl, hr0.1, hr0.2, fun _ => rfl, fun e => absurd han (Nat.not_lt.2 (Nat.le_of_eq e.symm)), ?_, Hg4.out⟩
    rw [← Heh2.out]
    exact ⟨Hb4.out, Nat.succ_le_of_lt han, hh2, Hc.out.below (bel_s Hg4.out hs1), Hl.out, Hnb.out⟩
  · have hanz : ¬ ((a : Int) < (n : Int)) := by omega
    go_enter Tryz.func56, Tryz.ntmps56
    go_wp2_with fail
    rw [← Hw1.out]
    refine wp_region_same [] rfl (by kernel_rfl) (by kernel_rfl) (by kernel_rfl) (fun w' => Below w1.heap.size w1 w') _
      [.pointer (some ⟨s, 0, none⟩), .pointer (some ⟨s, 0, none⟩), .pointer (some ⟨s, 1, none⟩), I a, .pointer (some ⟨s, 0, none⟩), .pointer (some ⟨s, 0, none⟩), .pointer (some ⟨s, 0, none⟩), .slice A n c, I n, .bool false]
      (by simp only [putAll, List.setIfInBounds_toArray, List.set_cons_succ, List.set_cons_zero]; rfl) (Below.refl _ _).drew ?hop ?hQ
    case hop =>
      refine FixBL.toL (fun w' w'' hS hb => hS.trans (hb.mono hS.size)) _ _ ?_
      refine ⟨.inr ?_, .inr ?_, .inr ?_, .inr ?_, .inr ?_, .inr ?_, .inr ?_, .inr ?_, .inr ?_, .inr ?_, trivial⟩
      · (with_reducible refine FixB.of ?_ ?_; rfl; intro w' hS; have s9 := B1.out.below hS l1; have s0 := s9.cell 0; have s1 := s9.cell 1; simp only [List.getElem?_toArray, List.getElem?_cons_zero, List.getElem?_cons_succ] at s0 s1; clear s9 hS; unfold Oper.wp; go_simp; first | done | exact Below.refl _ _)
      · (with_reducible refine FixB.of ?_ ?_; rfl; intro w' hS; have s9 := B1.out.below hS l1; have s0 := s9.cell 0; have s1 := s9.cell 1; simp only [List.getElem?_toArray, List.getElem?_cons_zero, List.getElem?_cons_succ] at s0 s1; clear s9 hS; unfold Oper.wp; go_simp; first | done | exact Below.refl _ _)
      · (with_reducible refine FixB.of ?_ ?_; rfl; intro w' hS; have s9 := B1.out.below hS l1; have s0 := s9.cell 0; have s1 := s9.cell 1; simp only [List.getElem?_toArray, List.getElem?_cons_zero, List.getElem?_cons_succ] at s0 s1; clear s9 hS; unfold Oper.wp; go_simp; first | done | exact Below.refl _ _)
      · (with_reducible refine FixB.of ?_ ?_; rfl; intro w' hS; have s9 := B1.out.below hS l1; have s0 := s9.cell 0; have s1 := s9.cell 1; simp only [List.getElem?_toArray, List.getElem?_cons_zero, List.getElem?_cons_succ] at s0 s1; clear s9 hS; unfold Oper.wp; go_simp; first | done | exact Below.refl _ _)
      · (with_reducible refine FixB.of ?_ ?_; rfl; intro w' hS; have s9 := B1.out.below hS l1; have s0 := s9.cell 0; have s1 := s9.cell 1; simp only [List.getElem?_toArray, List.getElem?_cons_zero, List.getElem?_cons_succ] at s0 s1; clear s9 hS; unfold Oper.wp; go_simp; first | done | exact Below.refl _ _)
      · (with_reducible refine FixB.of ?_ ?_; rfl; intro w' hS; have s9 := B1.out.below hS l1; have s0 := s9.cell 0; have s1 := s9.cell 1; simp only [List.getElem?_toArray, List.getElem?_cons_zero, List.getElem?_cons_succ] at s0 s1; clear s9 hS; unfold Oper.wp; go_simp; first | done | exact Below.refl _ _)
      · (with_reducible refine FixB.of ?_ ?_; rfl; intro w' hS; have s9 := B1.out.below hS l1; have s0 := s9.cell 0; have s1 := s9.cell 1; simp only [List.getElem?_toArray, List.getElem?_cons_zero, List.getElem?_cons_succ] at s0 s1; clear s9 hS; unfold Oper.wp; go_simp; first | done | exact Below.refl _ _)
      · (with_reducible refine FixB.of ?_ ?_; rfl; intro w' hS; have s9 := B1.out.below hS l1; have s0 := s9.cell 0; have s1 := s9.cell 1; simp only [List.getElem?_toArray, List.getElem?_cons_zero, List.getElem?_cons_succ] at s0 s1; clear s9 hS; unfold Oper.wp; go_simp; first | done | exact Below.refl _ _)
      · (with_reducible refine FixB.of ?_ ?_; rfl; intro w' hS; have s9 := B1.out.below hS l1; have s0 := s9.cell 0; have s1 := s9.cell 1; simp only [List.getElem?_toArray, List.getElem?_cons_zero, List.getElem?_cons_succ] at s0 s1; clear s9 hS; unfold Oper.wp; go_simp; first | done | exact Below.refl _ _)
      · (with_reducible refine FixB.of ?_ ?_; rfl; intro w' hS; have s9 := B1.out.below hS l1; have s0 := s9.cell 0; have s1 := s9.cell 1; simp only [List.getElem?_toArray, List.getElem?_cons_zero, List.getElem?_cons_succ] at s0 s1; clear s9 hS; unfold Oper.wp; go_simp; first | done | exact Below.refl _ _)
    case hQ =>
    intro wc hS _
    have HB2 := Lib.hid hS
    clear hS
    have hg2 : w.grownBy wc (some s) := grown_trans Hg1.out (grown_below HB2.out _)
    have b2 := B1.out.below HB2.out l1
    have B2 := Lib.hid b2
    have Hg2 := Lib.hid hg2
    obtain ⟨r, hr⟩ : ∃ r, (x : Int).tmod k = r := ⟨_, rfl⟩
    have hr0 : 0 ≤ r ∧ r < k := by rw [← hr]; exact ⟨Int.tmod_nonneg k (by omega), Int.tmod_lt_of_pos _ (by omega)⟩
    have hrm : r = (x : Int) % k := by rw [← hr, Int.tmod_eq_emod_of_nonneg (by omega)]
    have hry : r ≤ (x : Int) := by
      rw [← hr, Int.tmod_eq_emod_of_nonneg (by omega)]
      by_cases e : k ≤ (x : Int)
      · have := Int.emod_lt_of_pos (x : Int) (show 0 < k by omega)
        omega
      · rw [Int.emod_eq_of_lt (by omega) (by omega)]; exact Int.le_refl _
    have hwr : IntKind.i64.wrap r = r := IntWalk.i64_in _ ⟨by omega, by omega⟩
    have hk0 : ¬ (k = 0) := by omega
    have Hrm := Lib.hid hrm
    clear b2 hg2 hrm
    go_wp2_with fail
    go_ret
    refine ⟨r, a, rfl, hr0.1, hr0.2, fun e => absurd e han, fun _ => ⟨rfl, ?_⟩, ?_, Hg2.out⟩
    · rw [← Heh2.out, ← Hex.out]; exact Hrm.out
    · rw [← Heh2.out]
      exact ⟨B2.out, ha, hh2, Hc.out.below (bel_s Hg2.out hs1), Hl.out, Hnb.out⟩
end Go.Proofs.YtahamedecibmnaaGreat

namespace Go.Proofs.YtahamedecibmnaaGreat
open Go.RowKit
set_option maxRecDepth 100000
set_option linter.unusedSimpArgs false
set_option linter.unusedVariables false
def sgn (k : Nat) : ByteArray := ⟨#[([48, 49, 50, 52, 53, 44, 32, 120, 10] : List UInt8).getD k 0]⟩
def sgnV : List Value := (List.range 9).map fun k => .string (sgn k)
def RetDm (s : Nat) (A : Option Addr) (n c : Nat) (zs : List Int) (a h m : Nat) (w : World) (e : Ending) (w' : World) : Prop :=
  ∃ (t' : ByteArray) (a' h' : Nat), e = .returned (.string t') ∧ t'.size ≤ m + 1 ∧ a ≤ a' ∧ (h' = lcg h ∨ h' = lcg (lcg (lcg h))) ∧ SrcH w' s A n c zs a' h' ∧ w.grownBy w' (some s)
set_option maxHeartbeats 400000 in
theorem damage_any {s : Nat} {A : Option Addr} {n c : Nat} {zs : List Int} {a h : Nat} (t : ByteArray) (ht : t.size < 2305843009213693952) (w : World) (hS : SrcH w s A n c zs a h) :
    Calls Tryz.prog 61 #[.pointer (some ⟨s, 0, none⟩), .string t] w (RetDm s A n c zs a h t.size w) := by
  have hb2 : Below w.heap.size w (w.alloc (.cells sgnV.toArray 9)) := (Below.refl _ _).alloc (Nat.le_refl _) _
  have HS2 := Lib.hid (hS.below hb2)
  have Hb2 := Lib.hid hb2
  have hL : Blk (w.alloc (.cells sgnV.toArray 9)) w.heap.size 9 sgnV.toArray := Blk.new _ _ _
  have HL := Lib.hid hL
  have hS0 := hS.lt
  have hsg : sgnV.toArray = #[.string ⟨#[48]⟩, .string ⟨#[49]⟩, .string ⟨#[50]⟩, .string ⟨#[52]⟩, .string ⟨#[53]⟩, .string ⟨#[44]⟩, .string ⟨#[32]⟩, .string ⟨#[120]⟩, .string ⟨#[10]⟩] := rfl
  have Hsg := Lib.hid hsg
  clear hb2 hL hS hsg
  go_enter Tryz.func61, Tryz.ntmps61
  go_wp2_with fail
  rw [← Hsg.out]
  refine (nextH_any 9 (by decide) _ HS2.out).mono ?_
  rintro e w2 ⟨r, a2, rfl, hr0, hr9, _, _, hS3, hg3⟩
  have ha2 : a ≤ a2 := by
    rename_i h1 h2
    by_cases han : a < n
    · have := h1 han; omega
    · have := HS2.out.an; have := (h2 (by omega)).1; omega
  obtain ⟨j, hj⟩ : ∃ j : Nat, (j : Int) = r := ⟨r.toNat, by omega⟩
  subst hj
  have hj9 : j < 9 := by omega
  have hjz : (j : Int) < 9 := by omega
  have hL3 := HL.out.grown hg3 (fun e => by injection e with e; omega)
  have c0 : w2.cell? ⟨w.heap.size, j, none⟩ = some (.string (sgn j)) := by
    have := hL3.cell j
    rw [this]
    simp [sgnV, hj9]
  have HS3 := Lib.hid hS3
  have Hg3 := Lib.hid (grown_trans (grown_below Hb2.out (some s)) hg3)
  obtain ⟨sg, hsg⟩ : ∃ sg, sgn j = sg := ⟨_, rfl⟩
  have hsz : sg.size = 1 := by rw [← hsg]; rfl
  rw [hsg] at c0
  clear hS3 hg3 hL3 HL HS2 Hb2 Hsg hsg
  by_cases h0 : t.size = 0
  · have h0z : ((t.size : Int) == 0) = true := by simpa using h0
    go_wp2_with fail
    go_ret
    exact ⟨sg, a2, _, rfl, by omega, ha2, .inl rfl, HS3.out, Hg3.out⟩
  · have h0z : ((t.size : Int) == 0) = false := by simpa using h0
    go_wp2_with fail
    refine (nextH_any t.size (by omega) _ HS3.out).mono ?_
    rintro e w3 ⟨r, a3, rfl, hr0, hr9, h1, h2, hS4, hg4⟩
    have ha3 : a2 ≤ a3 := by
      by_cases han : a2 < n
      · have := h1 han; omega
      · have := HS3.out.an; have := (h2 (by omega)).1; omega
    clear h1 h2
    obtain ⟨k, hk⟩ : ∃ k : Nat, (k : Int) = r := ⟨r.toNat, by omega⟩
    subst hk
    have HS4 := Lib.hid hS4
    have Hg4 := Lib.hid (grown_trans Hg3.out hg4)
    clear hS4 hg4 HS3 Hg3
    go_wp2_with fail
    refine (nextH_any 3 (by decide) _ HS4.out).mono ?_
    rintro e w4 ⟨r, a4, rfl, hs0, hs9, h1, h2, hS5, hg5⟩
    have ha4 : a3 ≤ a4 := by
      by_cases han : a3 < n
      · have := h1 han; omega
      · have := HS4.out.an; have := (h2 (by omega)).1; omega
    clear h1 h2
    have HS5 := Lib.hid hS5
    have Hg5 := Lib.hid (grown_trans Hg4.out hg5)
    clear hS5 hg5 HS4 Hg4
    obtain ⟨k1, hk1⟩ : ∃ k1 : Nat, k1 = k + 1 := ⟨_, rfl⟩
    obtain ⟨p1, hp1⟩ : ∃ p1, t.extract 0 k = p1 := ⟨_, rfl⟩
    obtain ⟨q1, hq1⟩ : ∃ q1, t.extract k1 t.size = q1 := ⟨_, rfl⟩
    obtain ⟨q0, hq0⟩ : ∃ q0, t.extract k t.size = q0 := ⟨_, rfl⟩
    have hkt : k < t.size := by omega
    have Ht := Lib.hid ht
    clear ht
    have z1 : p1.size = k := by rw [← hp1, ByteArray.size_extract, Nat.sub_zero, Nat.min_eq_left (Nat.le_of_lt hkt)]
    have z2 : q1.size = t.size - k1 := by rw [← hq1, ByteArray.size_extract, Nat.min_self]
    have z3 : q0.size = t.size - k := by rw [← hq0, ByteArray.size_extract, Nat.min_self]
    have kt : (k : Int) ≤ (t.size : Int) := by omega
    have k1t : (k1 : Int) ≤ (t.size : Int) := by omega
    have k10 : (0 : Int) ≤ (k1 : Int) := by omega
    have big : ∀ x, x ≤ t.size + 1 → ¬ (9223372036854775807 < x) := fun x hx => Nat.not_lt.2 (Nat.le_trans hx (Nat.le_trans (Nat.succ_le_of_lt Ht.out) (by decide)))
    have e0 : (k : Int) + 1 = (k1 : Int) := by omega
    have e2 : (k1 : Int) < 9223372036854775808 := by have := big k1 (by omega); omega
    have y1 := big (p1.size + sg.size) (by omega)
    have y2 := big (p1.size + sg.size + q1.size) (by omega)
    have y3 := big (p1.size + q1.size) (by omega)
    have y4 := big (p1.size + sg.size + q0.size) (by omega)
    have L1 := Lib.hid (show (p1 ++ sg ++ q1).size ≤ t.size + 1 by simp only [ByteArray.size_append]; omega)
    have L2 := Lib.hid (show (p1 ++ q1).size ≤ t.size + 1 by simp only [ByteArray.size_append]; omega)
    have L3 := Lib.hid (show (p1 ++ sg ++ q0).size ≤ t.size + 1 by simp only [ByteArray.size_append]; omega)
    have HA : Hid (a ≤ a4) := Nat.le_trans ha2 (Nat.le_trans ha3 ha4)
    have e1 : IntKind.i64.wrap ((k : Int) + 1) = (k1 : Int) := by rw [e0]; exact IntWalk.i64_in _ ⟨by omega, by omega⟩
    clear z1 z2 z3 hsz hk1 ha2 ha3 ha4 c0 hj9 hjz h0 h0z hr9 big hkt Ht e0 e2
    by_cases r0 : r = 0
    · subst r0
      go_wp2_with fail
      refine wp_region_same [] rfl (by kernel_rfl) (by kernel_rfl) (by kernel_rfl) (fun w' => Below w4.heap.size w4 w') _
        [.string t, I k, .string p1, .string sg, .string (p1 ++ sg), .string t, I k, I k1, .string q1, .string (p1 ++ sg ++ q1), .string (p1 ++ sg ++ q1)]
        (by simp only [putAll, List.setIfInBounds_toArray, List.set_cons_succ, List.set_cons_zero]; rfl) (Below.refl _ _).drew ?hop ?hQ
      case hop =>
        refine FixBL.toL (fun w' w'' hS hb => hS.trans (hb.mono hS.size)) _ _ ?_
        refine ⟨.inr ?_, .inr ?_, .inr ?_, .inr ?_, .inr ?_, .inr ?_, .inr ?_, .inr ?_, .inr ?_, .inr ?_, .inr ?_, trivial⟩
        · (with_reducible refine FixB.of ?_ ?_; rfl; intro w' hS; clear hS; unfold Oper.wp; go_simp; first | done | exact Below.refl _ _)
        · (with_reducible refine FixB.of ?_ ?_; rfl; intro w' hS; clear hS; unfold Oper.wp; go_simp; first | done | exact Below.refl _ _)
        · (with_reducible refine FixB.of ?_ ?_; rfl; intro w' hS; clear hS; unfold Oper.wp; go_simp; first | done | exact Below.refl _ _)
        · (with_reducible refine FixB.of ?_ ?_; rfl; intro w' hS; clear hS; unfold Oper.wp; go_simp; first | done | exact Below.refl _ _)
        · (with_reducible refine FixB.of ?_ ?_; rfl; intro w' hS; clear hS; unfold Oper.wp; go_simp; first | done | exact Below.refl _ _)
        · (with_reducible refine FixB.of ?_ ?_; rfl; intro w' hS; clear hS; unfold Oper.wp; go_simp; first | done | exact Below.refl _ _)
        · (with_reducible refine FixB.of ?_ ?_; rfl; intro w' hS; clear hS; unfold Oper.wp; go_simp; first | done | exact Below.refl _ _)
        · (with_reducible refine FixB.of ?_ ?_; rfl; intro w' hS; clear hS; unfold Oper.wp; go_simp; first | done | exact Below.refl _ _)
        · (with_reducible refine FixB.of ?_ ?_; rfl; intro w' hS; clear hS; unfold Oper.wp; go_simp; first | done | exact Below.refl _ _)
        · (with_reducible refine FixB.of ?_ ?_; rfl; intro w' hS; clear hS; unfold Oper.wp; go_simp; first | done | exact Below.refl _ _)
        · (with_reducible refine FixB.of ?_ ?_; rfl; intro w' hS; clear hS; unfold Oper.wp; go_simp; first | done | exact Below.refl _ _)
      case hQ =>
      intro wc hS _
      have Hb := Lib.hid hS
      clear hS
      go_wp2_with fail
      go_ret
      exact ⟨_, a4, _, rfl, L1.out, HA.out, .inr rfl, HS5.out.below Hb.out, grown_trans Hg5.out (grown_below Hb.out _)⟩
    · have r0f : (r == 0) = false := by simpa using r0
      by_cases r1 : r = 1
      · subst r1
        go_wp2_with fail
        refine wp_region_same [] rfl (by kernel_rfl) (by kernel_rfl) (by kernel_rfl) (fun w' => Below w4.heap.size w4 w') _
          [.string t, I k, .string p1, .string t, I k, I k1, .string q1, .string (p1 ++ q1), .string (p1 ++ q1)]
          (by simp only [putAll, List.setIfInBounds_toArray, List.set_cons_succ, List.set_cons_zero]; rfl) (Below.refl _ _).drew ?hop ?hQ
        case hop =>
          refine FixBL.toL (fun w' w'' hS hb => hS.trans (hb.mono hS.size)) _ _ ?_
          refine ⟨.inr ?_, .inr ?_, .inr ?_, .inr ?_, .inr ?_, .inr ?_, .inr ?_, .inr ?_, .inr ?_, trivial⟩
          · (with_reducible refine FixB.of ?_ ?_; rfl; intro w' hS; clear hS; unfold Oper.wp; go_simp; first | done | exact Below.refl _ _)
          · (with_reducible refine FixB.of ?_ ?_; rfl; intro w' hS; clear hS; unfold Oper.wp; go_simp; first | done | exact Below.refl _ _)
          · (with_reducible refine FixB.of ?_ ?_; rfl; intro w' hS; clear hS; unfold Oper.wp; go_simp; first | done | exact Below.refl _ _)
          · (with_reducible refine FixB.of ?_ ?_; rfl; intro w' hS; clear hS; unfold Oper.wp; go_simp; first | done | exact Below.refl _ _)
          · (with_reducible refine FixB.of ?_ ?_; rfl; intro w' hS; clear hS; unfold Oper.wp; go_simp; first | done | exact Below.refl _ _)
          · (with_reducible refine FixB.of ?_ ?_; rfl; intro w' hS; clear hS; unfold Oper.wp; go_simp; first | done | exact Below.refl _ _)
          · (with_reducible refine FixB.of ?_ ?_; rfl; intro w' hS; clear hS; unfold Oper.wp; go_simp; first | done | exact Below.refl _ _)
          · (with_reducible refine FixB.of ?_ ?_; rfl; intro w' hS; clear hS; unfold Oper.wp; go_simp; first | done | exact Below.refl _ _)
          · (with_reducible refine FixB.of ?_ ?_; rfl; intro w' hS; clear hS; unfold Oper.wp; go_simp; first | done | exact Below.refl _ _)
        case hQ =>
        intro wc hS _
        have Hb := Lib.hid hS
        clear hS
        go_wp2_with fail
        go_ret
        exact ⟨_, a4, _, rfl, L2.out, HA.out, .inr rfl, HS5.out.below Hb.out, grown_trans Hg5.out (grown_below Hb.out _)⟩
      · have r1f : (r == 1) = false := by simpa using r1
        clear r0 r1
        go_wp2_with fail
        refine wp_region_same [] rfl (by kernel_rfl) (by kernel_rfl) (by kernel_rfl) (fun w' => Below w4.heap.size w4 w') _
          [.string t, I k, .string p1, .string sg, .string (p1 ++ sg), .string t, I k, .string q0, .string (p1 ++ sg ++ q0), .string (p1 ++ sg ++ q0)]
          (by simp only [putAll, List.setIfInBounds_toArray, List.set_cons_succ, List.set_cons_zero]; rfl) (Below.refl _ _).drew ?hop ?hQ
        case hop =>
          refine FixBL.toL (fun w' w'' hS hb => hS.trans (hb.mono hS.size)) _ _ ?_
          refine ⟨.inr ?_, .inr ?_, .inr ?_, .inr ?_, .inr ?_, .inr ?_, .inr ?_, .inr ?_, .inr ?_, .inr ?_, trivial⟩
          · (with_reducible refine FixB.of ?_ ?_; rfl; intro w' hS; clear hS; unfold Oper.wp; go_simp; first | done | exact Below.refl _ _)
          · (with_reducible refine FixB.of ?_ ?_; rfl; intro w' hS; clear hS; unfold Oper.wp; go_simp; first | done | exact Below.refl _ _)
          · (with_reducible refine FixB.of ?_ ?_; rfl; intro w' hS; clear hS; unfold Oper.wp; go_simp; first | done | exact Below.refl _ _)
          · (with_reducible refine FixB.of ?_ ?_; rfl; intro w' hS; clear hS; unfold Oper.wp; go_simp; first | done | exact Below.refl _ _)
          · (with_reducible refine FixB.of ?_ ?_; rfl; intro w' hS; clear hS; unfold Oper.wp; go_simp; first | done | exact Below.refl _ _)
          · (with_reducible refine FixB.of ?_ ?_; rfl; intro w' hS; clear hS; unfold Oper.wp; go_simp; first | done | exact Below.refl _ _)
          · (with_reducible refine FixB.of ?_ ?_; rfl; intro w' hS; clear hS; unfold Oper.wp; go_simp; first | done | exact Below.refl _ _)
          · (with_reducible refine FixB.of ?_ ?_; rfl; intro w' hS; clear hS; unfold Oper.wp; go_simp; first | done | exact Below.refl _ _)
          · (with_reducible refine FixB.of ?_ ?_; rfl; intro w' hS; clear hS; unfold Oper.wp; go_simp; first | done | exact Below.refl _ _)
          · (with_reducible refine FixB.of ?_ ?_; rfl; intro w' hS; clear hS; unfold Oper.wp; go_simp; first | done | exact Below.refl _ _)
        case hQ =>
        intro wc hS _
        have Hb := Lib.hid hS
        clear hS
        go_wp2_with fail
        go_ret
        exact ⟨_, a4, _, rfl, L3.out, HA.out, .inr rfl, HS5.out.below Hb.out, grown_trans Hg5.out (grown_below Hb.out _)⟩
end Go.Proofs.YtahamedecibmnaaGreat

namespace Go.Proofs.YtahamedecibmnaaGreat
open Go.RowKit
set_option maxRecDepth 100000
set_option linter.unusedSimpArgs false
set_option linter.unusedVariables false
theorem textD_any (f : M) (w : World) (hp1 : 1 ≤ f.p) (hp5 : f.p ≤ 5) (hv : ∀ j : Nat, (j : Int) < f.p → 0 ≤ f.at j ∧ f.at j < 10) :
    Calls Tryz.prog 60 #[.agg (mc f)] w fun e w' => e = .returned (.string (ba (txt f f.p.toNat))) ∧ Below w.heap.size w w' := by
  have Hv := Lib.hid hv
  clear hv
  go_enter Tryz.func60, Tryz.ntmps60
  go_wp2
  go_loopw [3, 4] (fun s i wr => ∃ k : Nat, (k : Int) ≤ f.p ∧ s = .string (ba (txt f k)) ∧ i = .int .i64 k ∧ Blk wr w.heap.size 26 (mc f) ∧ Below w.heap.size w wr) (fun _ i _ => 5 - (intOf i).toNat)
  case atStart => exact ⟨0, by omega, rfl, rfl, Blk.new _ _ _, by (repeat (first | with_reducible assumption | with_reducible exact Below.refl _ _ | with_reducible refine Below.setCell ?_ (by first | omega | (simp <;> omega)) _ | with_reducible refine Below.alloc ?_ (by first | omega | (simp <;> omega)) _ | with_reducible refine Below.drew ?_ | with_reducible refine Below.drewN ?_ _))⟩
  case round =>
    obtain ⟨k, hk, rfl, rfl, hB, hbel⟩ := hrel
    have c0 : wr.cell? ⟨w.heap.size, 0, none⟩ = some (I f.p) := hB.cell 0
    by_cases hlt : (k : Int) < f.p
    · have c1 := hB.at_ (k := k) (by omega)
      have b1 := (Hv.out k hlt).1
      have b2 := (Hv.out k hlt).2
      have hadd := add_txt f (k := k) (by omega)
      go_wp2_with fail
      refine (l01Dec_any (f.at k) _ b1 b2).mono ?_
      rintro e w1 ⟨rfl, hb⟩
      replace hB := hB.below hb hB.lt
      replace hbel := hbel.trans (hb.mono hbel.size)
      clear hb c0 c1
      go_wp2
      go_roundw
      case rel => exact ⟨k + 1, by omega, rfl, by go_num, hB, hbel⟩
      case measure => simp [intOf]; omega
    · obtain rfl : k = f.p.toNat := by omega
      go_wp2
      go_ret
      exact ⟨rfl, hbel⟩
def RetDT (w : World) (e : Ending) (w' : World) : Prop := ∃ t : ByteArray, e = .returned (.string t) ∧ t.size < 288230376151711744 ∧ Below w.heap.size w w'
def atOf (w : World) (s : Nat) : Nat := match w.cell? ⟨s, 1, none⟩ with | some (.int _ a) => a.toNat | _ => 0
def hashOf (w : World) (s : Nat) : Nat := match w.cell? ⟨s, 2, none⟩ with | some (.int _ a) => a.toNat | _ => 0
theorem SrcH.atOf {w : World} {s : Nat} {A : Option Addr} {n c : Nat} {zs : List Int} {a h : Nat} (x : SrcH w s A n c zs a h) : Go.Proofs.YtahamedecibmnaaGreat.atOf w s = a ∧ hashOf w s = h := by
  have c1 := x.blk.cell 1
  have c2 := x.blk.cell 2
  simp only [List.getElem?_toArray, List.getElem?_cons_zero, List.getElem?_cons_succ] at c1 c2
  unfold Go.Proofs.YtahamedecibmnaaGreat.atOf hashOf
  rw [c1, c2]
  exact ⟨Int.toNat_natCast a, Int.toNat_natCast h⟩
def meas (n a h : Nat) : Nat := if a < n then (n - a) * 288230376151711744 else muL h
theorem muL_lt (h : Nat) : muL h < 288230376151711744 := Nat.lt_of_le_of_lt (muL_le h) (by decide)
theorem meas_fall {n a a' h h' : Nat} (han : a ≤ n) (ha' : a' ≤ n) (h1 : a < n → a < a') (h2 : a = n → vlc (lcg h) % 3 = 0) (h3 : h' = lcg (lcg h) ∨ h' = lcg (lcg (lcg (lcg h)))) (h4 : a ≤ a') : meas n a' h' < meas n a h := by
  unfold meas
  by_cases hl : a < n
  · rw [if_pos hl]
    have := h1 hl
    by_cases hl' : a' < n
    · rw [if_pos hl']
      exact Nat.mul_lt_mul_of_pos_right (by omega) (by decide)
    · rw [if_neg hl']
      exact Nat.lt_of_lt_of_le (muL_lt h') (Nat.le_mul_of_pos_left _ (by omega))
  · have e : a = n := by omega
    rw [if_neg hl, if_neg (by omega)]
    have := muL_pos (h2 e)
    rcases h3 with e3 | e3
    · rw [e3]; exact this.1
    · rw [e3]; exact this.2
def roomT (n a h m : Nat) : Prop := if a < n then m ≤ 5 + a else m + muL h ≤ 5 + n + 72057594037927936
theorem room_lt {n a h m : Nat} (hn : n ≤ 4096) (han : a ≤ n) (hr : roomT n a h m) : m < 288230376151711743 := by
  unfold roomT at hr
  split at hr
  · exact Nat.lt_of_le_of_lt (show m ≤ 5 + 4096 by omega) (by decide)
  · exact Nat.lt_of_le_of_lt (show m ≤ 5 + 4096 + 72057594037927936 by omega) (by decide)
theorem room_step {n a a' h h' m m' : Nat} (han : a ≤ n) (ha' : a' ≤ n) (h1 : a < n → a < a') (h2 : a = n → vlc (lcg h) % 3 = 0) (h3 : h' = lcg (lcg h) ∨ h' = lcg (lcg (lcg (lcg h)))) (h4 : a ≤ a') (hm : m' ≤ m + 1) (hr : roomT n a h m) : roomT n a' h' m' := by
  unfold roomT at hr ⊢
  by_cases hl : a < n
  · rw [if_pos hl] at hr
    have := h1 hl
    by_cases hl' : a' < n
    · rw [if_pos hl']; omega
    · rw [if_neg hl']
      have := muL_le h'
      have e : (2 : Nat) ^ 56 = 72057594037927936 := by decide
      rw [e] at this
      omega
  · have e : a = n := by omega
    rw [if_neg hl] at hr
    rw [if_neg (by omega)]
    have := muL_pos (h2 e)
    obtain ⟨q1, q2⟩ := this
    rcases h3 with e3 | e3
    · rw [← e3] at q1; omega
    · rw [← e3] at q2; omega
set_option maxHeartbeats 1000000 in
theorem DrawParseMap_any {A : Option Addr} {n c : Nat} {zs : List Int} (w : World) (hx : RdU w w.heap.size A zs) (hn : zs.length = n) (hb : n ≤ 4096) :
    Calls Tryz.prog 25 #[.slice A n c] w (RetDT w) := by
  have HF := Lib.hid (from_any (A := A) (n := n) (c := c) w hx hn (by omega))
  have Hb := Lib.hid hb
  clear hx hn hb
  go_enter Tryz.func25, Tryz.ntmps25
  go_wp2_with fail
  refine HF.out.mono ?_
  rintro e w1 ⟨s, rfl, hs, hS1, hb1⟩
  have HS1 := Lib.hid hS1
  have Hb1 := Lib.hid hb1
  have Hs := Lib.hid hs
  clear hS1 hb1 hs HF
  go_wp2_with fail
  refine (drawS_any w1 HS1.out).mono ?_
  rintro e w2 ⟨f, rfl, ⟨k, hk1, hk5, hfk, hv⟩, hS2, hg2⟩
  have HS2 := Lib.hid hS2
  have Hb2 := Lib.hid (Hb1.out.trans ((bel_s hg2 (Nat.le_of_lt HS1.out.lt)).mono Hs.out))
  have HT := Lib.hid (textD_any f w2 (by omega) (by omega) (fun j hj => by have := hv j (by omega); omega))
  have hl : (ba (txt f f.p.toNat)).size ≤ 5 := by show (txt f f.p.toNat).toArray.size ≤ 5; rw [List.size_toArray, txt_length]; omega
  generalize ba (txt f f.p.toNat) = t0 at *
  have Hl := Lib.hid hl
  clear hS2 hg2 HS1 Hb1 hk1 hk5 hfk hv hl
  go_wp2_with fail
  refine HT.out.mono ?_
  rintro e w3 ⟨rfl, hb3⟩
  have HS3 := Lib.hid (HS2.out.below hb3)
  have Hb3 := Lib.hid (Hb2.out.trans (hb3.mono Hb2.out.size))
  clear hb3 HS2 Hb2 HT
  obtain ⟨a0, h0, hS0⟩ := HS3.out.toH
  have HS0 := Lib.hid hS0
  have Hr0 : Hid (roomT n a0 h0 t0.size) := by
    show roomT _ _ _ _
    unfold roomT
    have h1 := Hl.out
    have h2 := muL_le h0
    have e : (2 : Nat) ^ 56 = 72057594037927936 := by decide
    rw [e] at h2
    split <;> omega
  clear HS3 Hl hS0
  go_wp2_with fail
  go_loopw [4] (fun t wr => ∃ (tb : ByteArray) (a h : Nat), t = .string tb ∧ SrcH wr s A n c zs a h ∧ roomT n a h tb.size ∧ Below w.heap.size w wr) (fun _ wr => meas n (atOf wr s) (hashOf wr s))
  case atStart => exact ⟨t0, a0, h0, rfl, HS0.out, Hr0.out, Hb3.out⟩
  case round =>
    clear HS0 Hr0 Hb3
    obtain ⟨tb, a, h, rfl, hS, hr, hbl⟩ := hrel
    have HS := Lib.hid hS
    have Hr := Lib.hid hr
    have Hbl := Lib.hid hbl
    have Hm : Hid (meas n (atOf wr s) (hashOf wr s) = meas n a h) := by
      show _ = _
      rw [hS.atOf.1, hS.atOf.2]
    clear hS hr hbl
    go_wp2_with fail
    refine (nextH_any 3 (by decide) _ HS.out).mono ?_
    rintro e w4 ⟨r, a', rfl, hr0, hr3, h1, h2, hS4, hg4⟩
    have HS4 := Lib.hid hS4
    have Hg4 := Lib.hid hg4
    have H1 := Lib.hid h1
    have H2 := Lib.hid h2
    have Hb4 := Lib.hid (Hbl.out.trans ((bel_s hg4 (Nat.le_of_lt HS.out.lt)).mono Hs.out))
    clear hS4 hg4 h1 h2
    have hroom := room_lt Hb.out HS.out.an Hr.out
    by_cases r0 : r = 0
    · subst r0
      go_wp2_with fail
      refine (damage_any tb (Nat.lt_trans hroom (by decide)) _ HS4.out).mono ?_
      rintro e w5 ⟨t', a2, h2, rfl, hsz, ha2, hh, hS5, hg5⟩
      have Hb5 := Lib.hid (Hb4.out.trans ((bel_s hg5 (Nat.le_of_lt HS4.out.lt)).mono Hs.out))
      have HS5 := Lib.hid hS5
      have han := HS.out.an
      have hle : a ≤ a2 := by
        by_cases hl : a < n
        · have := H1.out hl; omega
        · have := (H2.out (by omega)).1; omega
      have hlt : a < n → a < a2 := fun hl => by have := H1.out hl; omega
      have hv : a = n → vlc (lcg h) % 3 = 0 := fun e => by
        have := (H2.out e).2
        omega
      have F1 := Lib.hid (room_step HS.out.an HS5.out.an hlt hv hh hle hsz Hr.out)
      have F2 := Lib.hid (meas_fall HS.out.an HS5.out.an hlt hv hh hle)
      have F3 : Hid (meas n (atOf w5 s) (hashOf w5 s) = meas n a2 h2) := by
        show _ = _
        rw [HS5.out.atOf.1, HS5.out.atOf.2]
      clear hS5 hg5 hle hlt hv hh hsz ha2 han hroom hr0 hr3
      go_wp2_with fail
      go_roundw
      case rel => exact ⟨t', a2, h2, rfl, HS5.out, F1.out, Hb5.out⟩
      case measure => rw [Hm.out, F3.out]; exact F2.out
    · have r0f : (r == 0) = false := by simpa using r0
      have HR : Hid (RetDT w (.returned (.string tb)) w4) := ⟨tb, rfl, Nat.lt_trans hroom (by decide), Hb4.out⟩
      clear r0 hr0 hr3 hroom
      go_wp2_with fail
      go_ret
      exact HR.out
end Go.Proofs.YtahamedecibmnaaGreat
