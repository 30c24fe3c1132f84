/- The laws on powers, inverses, renumbered maps and kernels in plain words; no program; the maps are valid as each theorem states. -/
import Derived.Test.YtkbfocoaobiijaaE4
import Derived.Test.YtkbfocoaobiijaaD4
import Derived.Test.YtkbfocoaobiijaaC12
import Derived.Test.YtkbfocoaobiijaaC14
import Derived.Test.YtkbfocoaobiijaaKA
namespace Go.Proofs.Ytkbfocoaobiijaa
open Go.RowKit
set_option maxRecDepth 100000

/-- powers go on behind the index by the period -/
theorem pw_later {f : M} (hf : Valid f) {k n : Nat} (he : pw f k = pw f n) {m : Nat} (hm : k ≤ m) (hn : k ≤ n) : pw f (m + (n - k)) = pw f m := by
  have h1 : pw f (m + (n - k)) = mul (pw f n) (pw f (m - k)) := by rw [pw_add hf]; congr 1; omega
  have h2 : pw f m = mul (pw f k) (pw f (m - k)) := by rw [pw_add hf]; congr 1; omega
  rw [h1, h2, he]
theorem mul_isMap {f g : M} (hf : isMap f = true) (hg : isMap g = true) (e : f.p = g.p) : isMap (mul f g) = true :=
  (isMap_iff _).2 (Valid.mul ((isMap_iff f).1 hf) ((isMap_iff g).1 hg) e)

/-- the points that an idempotent map leaves are those to which it leads -/
theorem idem_fix {e : M} (he : Valid e) (hi : mul e e = e) : sel (isFixed e) e.p.toNat = sel (imQ e (ups e.p.toNat)) e.p.toNat := by
  have h5 := he.p5
  refine sel_ext fun k hk => ?_
  rw [Bool.eq_iff_iff, imQ_ups, isFixed, decide_eq_true_eq, Int.toNat_natCast]
  constructor
  · intro h; exact ⟨k, hk, h⟩
  · rintro ⟨i, hi', e1⟩
    have h2 := at_mul e e (k := i) (by omega)
    rw [hi, if_pos (by omega), e1, Int.toNat_natCast] at h2
    exact h2.symm
theorem idem_rank {e : M} (he : Valid e) (hi : mul e e = e) : rk e = (sel (isFixed e) e.p.toNat).length := by
  have h5 := he.p5
  rw [idem_fix he hi, rk, sel_far (n := e.p.toNat) (by omega)]
  intro k h1 h2
  rw [Bool.eq_false_iff]
  intro hb
  obtain ⟨i, hi, e1⟩ := imQ_ups.1 hb
  have := he.hi i (by omega) (by omega)
  omega
/-- the cyclic points are those that the idempotent power leaves -/
theorem cyc_fix {f : M} (hf : Valid f) : sel (isCyc f) f.p.toNat = sel (isFixed (pw f 60)) f.p.toNat := by
  have hv := pw_valid hf 60
  have hp := pw_p f 60
  have h5 := hf.p5
  have h1 := idem_fix hv (idem_60 hf)
  rw [hp] at h1
  rw [h1]
  refine sel_ext fun k hk => ?_
  rw [Bool.eq_iff_iff, imQ_ups, isCyc, Int.toNat_natCast, back_60 hf (by omega)]
  constructor
  · rintro ⟨i, hi, e⟩
    exact ⟨i, hi, by rw [pw_go hf (by omega) (by omega) 60, e]⟩
  · rintro ⟨i, hi, e⟩
    rw [pw_go hf (by omega) (by omega) 60] at e
    exact ⟨i, hi, by omega⟩

/-- a permutation and its inverse -/
theorem perm_inj {f : M} (hf : Valid f) (h : (rk f : Int) = f.p) {i j : Nat} (hi : (i : Int) < f.p) (hj : (j : Int) < f.p) (e : f.at i = f.at j) : i = j := by
  have h5 := hf.p5
  have hx : ∀ m : Nat, (m : Int) < f.p → ∃ i, i < f.p.toNat ∧ f.at i = m := fun m hm => perm_hit hf h hm
  refine Classical.byContradiction fun hne => ?_
  have hnd := nodup_sub_len (a := ups f.p.toNat) (b := ((ups f.p.toNat).erase (j : Int)).map fun z => f.at z.toNat) ?_ ?_
  · rw [List.length_map, List.length_erase_of_mem (by simp [ups]; exact ⟨j, by omega, rfl⟩), ups_length] at hnd
    have := hf.p1
    omega
  · exact (ups_strict _).imp fun h => by omega
  · intro z hz
    obtain ⟨m, hm, rfl⟩ := ups_mem hz
    obtain ⟨i', hi', e'⟩ := hx m (by omega)
    have hup : (ups f.p.toNat).Nodup := (ups_strict _).imp fun h => by omega
    by_cases e2 : i' = j
    · subst e2
      refine List.mem_map.2 ⟨(i : Int), ?_, by rw [Int.toNat_natCast, e]; exact e'⟩
      rw [List.Nodup.mem_erase_iff hup]
      exact ⟨by omega, by simp [ups]; exact ⟨i, by omega, rfl⟩⟩
    · refine List.mem_map.2 ⟨(i' : Int), ?_, by rw [Int.toNat_natCast]; exact e'⟩
      rw [List.Nodup.mem_erase_iff hup]
      exact ⟨by omega, by simp [ups]; exact ⟨i', by omega, rfl⟩⟩
theorem ivF_at {f : M} {b : Nat → Int} : ∀ {n i : Nat}, i < n → (∀ j, i < j → j < n → (f.at j).toNat ≠ (f.at i).toNat) → ivF f b n (f.at i).toNat = i
  | 0, i, h, _ => by omega
  | n + 1, i, h, hn => by
    rw [ivF]
    by_cases e : i = n
    · subst e; rw [if_pos rfl]
    · rw [if_neg (fun e' => hn n (by omega) (by omega) e'.symm)]
      exact ivF_at (by omega) fun j h1 h2 => hn j h1 (by omega)
theorem mul_inv {f : M} (hf : Valid f) (h : (rk f : Int) = f.p) : mul f (inv f) = one f.p := by
  have h5 := hf.p5
  refine M.ext5 rfl fun k hk => ?_
  rw [at_mul _ _ hk, at_one _ hk]
  by_cases hp : (k : Int) < f.p
  · have h1 := hf.lo k hk hp
    have h2 := hf.hi k hk hp
    rw [if_pos hp, if_pos hp, inv, at_mk' _ _ (by omega), ivF_at (by omega)]
    intro j hj1 hj2 e
    have h3 := hf.lo j (by omega) (by omega)
    have := perm_inj hf h (i := j) (j := k) (by omega) hp (by omega)
    omega
  · rw [if_neg hp, if_neg hp]
theorem inv_mul {f : M} (hf : Valid f) (h : (rk f : Int) = f.p) : mul (inv f) f = one f.p := by
  have h5 := hf.p5
  refine M.ext5 rfl fun k hk => ?_
  rw [at_mul _ _ hk, at_one _ hk, p_inv]
  by_cases hp : (k : Int) < f.p
  · rw [if_pos hp, if_pos hp]
    obtain ⟨i, hi, e⟩ := perm_hit hf h hp
    have hk' : k = (f.at i).toNat := by omega
    have e2 : (inv f).at k = (i : Int) := by
      rw [inv, at_mk' _ _ hk, hk', ivF_at hi]
      intro j hj1 hj2 e'
      have h3 := hf.lo j (by omega) (by omega)
      have := perm_inj hf h (i := j) (j := i) (by omega) (by omega) (by omega)
      omega
    rw [e2, Int.toNat_natCast, e]
  · rw [if_neg hp, if_neg hp]


theorem ren_valid {f p : M} (hf : Valid f) (hp : Valid p) (e : f.p = p.p) : Valid (ren f p) ∧ (ren f p).p = p.p := by
  have hi := inv_valid hp
  have h1 := Valid.mul hi hf (by rw [p_inv, e])
  exact ⟨Valid.mul h1 hp (by rw [p_mul, p_inv]), by rw [ren, p_mul, p_mul, p_inv]⟩
theorem ren_mul {f g p : M} (hf : Valid f) (hg : Valid g) (hp : Valid p) (e : f.p = p.p) (e' : g.p = p.p) (h : (rk p : Int) = p.p) : mul (ren f p) (ren g p) = ren (mul f g) p := by
  have hi := inv_valid hp
  have h1 := Valid.mul hi hf (by rw [p_inv, e])
  have h2 := Valid.mul hi hg (by rw [p_inv, e'])
  have h3 := Valid.mul hf hg (by rw [e, e'])
  have q1 : (mul (inv p) f).p = p.p := by rw [p_mul, p_inv]
  have q2 : (mul (inv p) g).p = p.p := by rw [p_mul, p_inv]
  show mul (mul (mul (inv p) f) p) (mul (mul (inv p) g) p) = mul (mul (inv p) (mul f g)) p
  rw [mul_assoc h1 hp (by rw [q1]), ← mul_assoc hp h2 (by rw [q2]), ← mul_assoc hp hi (by rw [p_inv]), mul_inv hp h]
  have h4 := one_mul' hg
  rw [e'] at h4
  rw [h4, ← mul_assoc h1 hg (by rw [q1, e']), mul_assoc hi hf (by rw [p_inv, e])]
theorem ren_sq {f p : M} (hf : Valid f) (hp : Valid p) (e : f.p = p.p) (h : (rk p : Int) = p.p) : ren (pw f 2) p = pw (ren f p) 2 := by
  have hv := (ren_valid hf hp e)
  have a : ∀ x : M, Valid x → pw x 2 = mul x x := fun x hx => by
    have := pw_add hx 1 1
    rw [pw_one hx] at this
    exact this.symm
  rw [a f hf, a _ hv.1, ren_mul hf hf hp e e h]

/-- the number of classes of the kernel is the rank -/
theorem kn_rank (f : M) (N : Nat) : ∀ n, (∀ i, i < n → 0 ≤ f.at i ∧ f.at i < N) → (kn f n).2 = ((sel (imQ f (ups n)) N).length : Int)
  | 0, _ => by
    have : sel (imQ f (ups 0)) N = [] := by
      rw [sel, List.filter_eq_nil_iff]
      intro z _
      simp [imQ, led, ups]
    rw [this]; rfl
  | n + 1, hb => by
    have ih := kn_rank f N n fun i hi => hb i (by omega)
    by_cases he : ∃ k, k < n ∧ f.at k = f.at n
    · obtain ⟨k, ⟨hk, hke⟩, hmin⟩ := exists_least he
      rw [kn_old hk hke fun j hj e => by have := hmin j ⟨by omega, e⟩; omega]
      simp only
      rw [ih]
      congr 2
      refine sel_ext fun j hj => ?_
      rw [Bool.eq_iff_iff, imQ_ups, imQ_ups]
      constructor
      · rintro ⟨i, hi, e⟩; exact ⟨i, by omega, e⟩
      · rintro ⟨i, hi, e⟩
        by_cases h : i = n
        · subst h; exact ⟨k, hk, by rw [hke]; exact e⟩
        · exact ⟨i, by omega, e⟩
    · rw [kn_new fun j hj e => he ⟨j, hj, e⟩]
      simp only
      rw [ih]
      have hbn := hb n (by omega)
      -- one point more
      have key : ∀ N : Nat, f.at n < N → (sel (imQ f (ups (n + 1))) N).length = (sel (imQ f (ups n)) N).length + 1 := by
        have same : ∀ M : Nat, (M : Int) ≤ f.at n → sel (imQ f (ups (n + 1))) M = sel (imQ f (ups n)) M := fun M hM => sel_ext fun j hj => by
          rw [Bool.eq_iff_iff, imQ_ups, imQ_ups]
          constructor
          · rintro ⟨i, hi, e⟩
            by_cases h : i = n
            · subst h; omega
            · exact ⟨i, by omega, e⟩
          · rintro ⟨i, hi, e⟩; exact ⟨i, by omega, e⟩
        intro N
        induction N with
        | zero => intro h; omega
        | succ N ihN =>
          intro h
          rw [sel_succ, sel_succ]
          by_cases e : f.at n = N
          · rw [same N (by omega)]
            have t1 : imQ f (ups (n + 1)) N = true := imQ_ups.2 ⟨n, by omega, e⟩
            have t2 : imQ f (ups n) N = false := by
              rw [Bool.eq_false_iff]; intro hb'
              obtain ⟨i, hi, e'⟩ := imQ_ups.1 hb'
              exact he ⟨i, hi, by rw [e', e]⟩
            rw [t1, t2]; simp
          · have e3 : imQ f (ups (n + 1)) N = imQ f (ups n) N := by
              rw [Bool.eq_iff_iff, imQ_ups, imQ_ups]
              constructor
              · rintro ⟨i, hi, e'⟩
                by_cases h : i = n
                · subst h; exact absurd e' e
                · exact ⟨i, by omega, e'⟩
              · rintro ⟨i, hi, e'⟩; exact ⟨i, by omega, e'⟩
            rw [e3, List.length_append, List.length_append, ihN (by omega)]
            omega
      rw [key N hbn.2]
      omega
theorem ker_rank {f : M} (hf : Valid f) : (kn f f.p.toNat).2 = (rk f : Int) :=
  kn_rank f 5 _ fun i hi => by
    have h5 := hf.p5
    have := hf.lo i (by omega) (by omega)
    have := hf.hi i (by omega) (by omega)
    omega
end Go.Proofs.Ytkbfocoaobiijaa
