/- Powers of maps in plain words: they add up, and the sixtieth power is idempotent; the maps are valid as each theorem states. -/
import Derived.Test.YtkbfocoaobiijaaBase
namespace Go.Proofs.Ytkbfocoaobiijaa
open Go.RowKit
set_option maxRecDepth 100000

theorem mul_p (f g : M) : (mul f g).p = f.p := rfl

theorem mul_assoc {f g h : M} (hf : Valid f) (_ : Valid g) (e : f.p = g.p) : mul (mul f g) h = mul f (mul g h) := by
  refine M.ext5 rfl fun k hk => ?_
  rw [at_mul (mul f g) h hk, at_mul f (mul g h) hk, mul_p]
  by_cases hp : (k : Int) < f.p
  · have h1 := hf.lo k hk hp; have h2 := hf.hi k hk hp; have h3 := hf.p5
    rw [if_pos hp, if_pos hp, at_mul f g hk, if_pos hp, at_mul g h (by omega), if_pos (by omega)]
  · rw [if_neg hp, if_neg hp]
theorem mul_one' {f : M} (hf : Valid f) : mul f (one f.p) = f := by
  refine M.ext5 rfl fun k hk => ?_
  rw [at_mul _ _ hk]
  by_cases hp : (k : Int) < f.p
  · have h1 := hf.lo k hk hp; have h2 := hf.hi k hk hp; have h3 := hf.p5
    rw [if_pos hp, at_one _ (by omega), if_pos (by omega)]; omega
  · rw [if_neg hp]; exact (hf.out k hk (by omega)).symm
theorem one_mul' {f : M} (hf : Valid f) : mul (one f.p) f = f := by
  refine M.ext5 rfl fun k hk => ?_
  rw [at_mul _ _ hk, p_one]
  by_cases hp : (k : Int) < f.p
  · rw [if_pos hp, at_one _ hk, if_pos hp, Int.toNat_natCast]
  · rw [if_neg hp]; exact (hf.out k hk (by omega)).symm

/-- powers -/
def pw (f : M) : Nat → M
  | 0 => one f.p
  | k + 1 => mul (pw f k) f
theorem pw_zero (f : M) : pw f 0 = one f.p := rfl
theorem pw_succ (f : M) (k : Nat) : pw f (k + 1) = mul (pw f k) f := rfl
theorem pw_p (f : M) : ∀ k, (pw f k).p = f.p
  | 0 => rfl
  | k + 1 => (mul_p _ _).trans (pw_p f k)
theorem pw_valid {f : M} (hf : Valid f) : ∀ k, Valid (pw f k)
  | 0 => Valid.one hf.p1 hf.p5
  | k + 1 => Valid.mul (pw_valid hf k) hf (pw_p f k)
theorem pw_one {f : M} (hf : Valid f) : pw f 1 = f := one_mul' hf
theorem pw_add {f : M} (hf : Valid f) (a b : Nat) : mul (pw f a) (pw f b) = pw f (a + b) := by
  induction b with
  | zero => have := mul_one' (pw_valid hf a); rw [pw_p] at this; exact this
  | succ b ih => rw [pw_succ, ← mul_assoc (pw_valid hf a) (pw_valid hf b) (by rw [pw_p, pw_p]), ih]; rfl
theorem pw_mul {f : M} (hf : Valid f) (a b : Nat) : pw (pw f a) b = pw f (a * b) := by
  induction b with
  | zero => rw [pw_zero, pw_p]; rfl
  | succ b ih => rw [pw_succ, ih, pw_add hf]; rfl
theorem pw_at {f : M} : ∀ (n k : Nat), k < 5 → (k : Int) < f.p → (pw f (n + 1)).at k = f.at ((pw f n).at k).toNat := by
  intro n k hk hp
  rw [pw_succ, at_mul _ _ hk, pw_p, if_pos hp]

/-- the walk of a point under a map -/
def go' (f : M) (k : Nat) : Nat → Nat
  | 0 => k
  | n + 1 => (f.at (go' f k n)).toNat
theorem go_lt {f : M} (hf : Valid f) {k : Nat} (hp : (k : Int) < f.p) : ∀ n, (go' f k n : Int) < f.p
  | 0 => hp
  | n + 1 => by
    have h := go_lt hf hp n
    have h3 := hf.p5
    have := hf.lo _ (by omega) h; have := hf.hi _ (by omega) h
    simp only [go']; omega
theorem pw_go {f : M} (hf : Valid f) {k : Nat} (hk : k < 5) (hp : (k : Int) < f.p) : ∀ n, (pw f n).at k = (go' f k n : Int)
  | 0 => by rw [pw_zero, at_one _ hk, if_pos hp]; rfl
  | n + 1 => by
    have h := go_lt hf hp n
    have h3 := hf.p5
    have := hf.lo _ (by omega) h
    rw [pw_at n k hk hp, pw_go hf hk hp n, Int.toNat_natCast]
    simp only [go']
    omega
theorem pigeon : ∀ a b c d e f : Fin 5, a = b ∨ a = c ∨ a = d ∨ a = e ∨ a = f ∨ b = c ∨ b = d ∨ b = e ∨ b = f ∨ c = d ∨ c = e ∨ c = f ∨ d = e ∨ d = f ∨ e = f := by decide +kernel
theorem go_per {f : M} {k i d : Nat} (h : go' f k i = go' f k (i + d)) : ∀ n, i ≤ n → go' f k n = go' f k (n + d) := by
  intro n hn
  obtain ⟨m, rfl⟩ : ∃ m, n = i + m := ⟨n - i, by omega⟩
  clear hn
  induction m with
  | zero => exact h
  | succ m ih =>
    rw [show i + (m + 1) + d = (i + m + d) + 1 by omega, ← Nat.add_assoc]
    simp only [go']
    rw [ih]
theorem go_pers {f : M} {k i d : Nat} (h : go' f k i = go' f k (i + d)) (n : Nat) (hn : i ≤ n) : ∀ q, go' f k n = go' f k (n + q * d)
  | 0 => by simp
  | q + 1 => by rw [go_pers h n hn q, go_per h (n + q * d) (by omega)]; congr 1; rw [Nat.succ_mul]; omega
theorem go_60' {f : M} (hf : Valid f) {k : Nat} (hp : (k : Int) < f.p) (N L : Nat) (hN : N = 60) (hL : L = 120) : go' f k N = go' f k L := by
  have h5 := hf.p5
  have h := fun n => go_lt hf hp n
  have step : ∀ i d, i ≤ 5 → d ∣ 60 → go' f k i = go' f k (i + d) → go' f k N = go' f k L := by
    intro i d hi ⟨q, hq⟩ he
    have := go_pers he N (by omega) q
    have e : N + q * d = L := by rw [Nat.mul_comm]; omega
    rwa [e] at this
  have hp := pigeon ⟨go' f k 0, by have := h 0; omega⟩ ⟨go' f k 1, by have := h 1; omega⟩ ⟨go' f k 2, by have := h 2; omega⟩ ⟨go' f k 3, by have := h 3; omega⟩ ⟨go' f k 4, by have := h 4; omega⟩ ⟨go' f k 5, by have := h 5; omega⟩
  simp only [Fin.mk.injEq] at hp
  rcases hp with e | e | e | e | e | e | e | e | e | e | e | e | e | e | e
  · exact step 0 1 (by decide) (by decide) e
  · exact step 0 2 (by decide) (by decide) e
  · exact step 0 3 (by decide) (by decide) e
  · exact step 0 4 (by decide) (by decide) e
  · exact step 0 5 (by decide) (by decide) e
  · exact step 1 1 (by decide) (by decide) e
  · exact step 1 2 (by decide) (by decide) e
  · exact step 1 3 (by decide) (by decide) e
  · exact step 1 4 (by decide) (by decide) e
  · exact step 2 1 (by decide) (by decide) e
  · exact step 2 2 (by decide) (by decide) e
  · exact step 2 3 (by decide) (by decide) e
  · exact step 3 1 (by decide) (by decide) e
  · exact step 3 2 (by decide) (by decide) e
  · exact step 4 1 (by decide) (by decide) e
theorem go_60 {f : M} (hf : Valid f) {k : Nat} (hp : (k : Int) < f.p) : go' f k 60 = go' f k 120 := go_60' hf hp _ _ rfl rfl
theorem pw_60 {f : M} (hf : Valid f) : pw f 60 = pw f 120 := by
  refine M.ext5 (by rw [pw_p, pw_p]) fun k hk => ?_
  by_cases hp : (k : Int) < f.p
  · rw [pw_go hf hk hp, pw_go hf hk hp, go_60 hf hp]
  · rw [(pw_valid hf 60).out k hk (by rw [pw_p]; omega), (pw_valid hf 120).out k hk (by rw [pw_p]; omega)]
theorem idem_60 {f : M} (hf : Valid f) : mul (pw f 60) (pw f 60) = pw f 60 := by rw [pw_add hf, pw_60 hf]
theorem idem_pw {e : M} (he : Valid e) (h : mul e e = e) : ∀ n, 1 ≤ n → pw e n = e
  | 1, _ => pw_one he
  | n + 2, _ => by rw [pw_succ, idem_pw he h (n + 1) (by omega), h]
/-- the idempotent power is one -/
theorem idem_uniq {f : M} (hf : Valid f) {m : Nat} (hm : 1 ≤ m) (h : mul (pw f m) (pw f m) = pw f m) : pw f m = pw f 60 := by
  have h1 := idem_pw (pw_valid hf m) h 60 (by decide)
  have h2 := idem_pw (pw_valid hf 60) (idem_60 hf) m hm
  rw [pw_mul hf] at h1 h2
  rw [← h1, ← h2, Nat.mul_comm]
end Go.Proofs.Ytkbfocoaobiijaa
