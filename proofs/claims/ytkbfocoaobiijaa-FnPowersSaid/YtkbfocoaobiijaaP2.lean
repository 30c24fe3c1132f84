/- The law on powers in the words of the contracts; no program in sight; the maps are as each theorem states. -/
import Derived.Test.YtkbfocoaobiijaaP1
namespace Go.Proofs.Ytkbfocoaobiijaa
open Go.RowKit
set_option maxRecDepth 100000

/-- one more than the greatest number, at least nought -/
def mxk (zs : List Int) : Nat → Int
  | 0 => 0
  | k + 1 => max (mxk zs k) (gi zs k + 1)
theorem mxk_le {zs : List Int} {b : Int} (hb : 0 ≤ b) : ∀ {k : Nat}, (∀ j, j < k → gi zs j < b) → mxk zs k ≤ b
  | 0, _ => hb
  | k + 1, h => by
    have h1 := mxk_le hb (k := k) fun j hj => h j (by omega)
    have h2 := h k (by omega)
    rw [mxk]; omega
theorem le_mxk {zs : List Int} : ∀ {k j : Nat}, j < k → gi zs j + 1 ≤ mxk zs k
  | 0, j, h => by omega
  | k + 1, j, h => by
    rw [mxk]
    by_cases e : j = k
    · subst e; omega
    · have := le_mxk (zs := zs) (k := k) (j := j) (by omega)
      omega
theorem mxk_pos {zs : List Int} : ∀ k, 0 ≤ mxk zs k
  | 0 => by simp [mxk]
  | k + 1 => by have := mxk_pos (zs := zs) k; rw [mxk]; omega
theorem kn_last (f : M) : ∀ n, (kn f n).2 = 0 ∨ ∃ j, j < n ∧ gi (kn f n).1 j = (kn f n).2 - 1
  | 0 => .inl (by simp [kn])
  | n + 1 => by
    have hl := kn_length f n
    rw [kn]
    split
    · rename_i hlt
      simp only []
      rcases kn_last f n with h | ⟨j, hj, h⟩
      · exact .inl h
      · exact .inr ⟨j, by omega, by rw [gi_snoc _ _ _ (by omega), if_pos (by omega)]; exact h⟩
    · simp only []
      exact .inr ⟨n, by omega, by rw [gi_snoc _ _ _ (by omega), if_neg (by omega)]; omega⟩
theorem kn_mx (f : M) (n : Nat) : mxk (kn f n).1 n = (kn f n).2 := by
  obtain ⟨h1, _, h3⟩ := kn_bd f n
  have h4 := mxk_le h1 fun j hj => (h3 j hj).2
  rcases kn_last f n with h | ⟨j, hj, h⟩
  · have := mxk_pos (zs := (kn f n).1) n
    omega
  · have := le_mxk (zs := (kn f n).1) hj
    omega
theorem ker_law {v : M} (hv : isMap v = true) : mxk (kerR v) (kerR v).length = rkR v ∧ (kerR v).length ≤ 5 ∧ ∀ j, j < (kerR v).length → 0 ≤ gi (kerR v) j ∧ gi (kerR v) j ≤ 5 := by
  have hf := (isMap_iff v).1 hv
  have h5 := hf.p5
  rw [kerR_good hv, rkR_good hv, kn_length]
  obtain ⟨h1, h2, h3⟩ := kn_bd v v.p.toNat
  refine ⟨by rw [kn_mx, ker_rank hf], by omega, fun j hj => ?_⟩
  have := h3 j hj
  omega
theorem mxk_bd {zs : List Int} {n : Nat} (h : ∀ j, j < n → 0 ≤ gi zs j ∧ gi zs j ≤ 5) : ∀ k, k ≤ n → mxk zs k ≤ 6
  | 0, _ => by simp [mxk]
  | k + 1, hk => by
    have := mxk_bd h k (by omega)
    have := h k (by omega)
    rw [mxk]; omega
theorem pow_law {f : M} {k i p : Int} (h : IP f i p) (hc : powC f k = 0) (hi : i ≤ k) (hk : k < 900000000000) : powC f (k + p) = 0 ∧ powR f (k + p) = powR f k ∧ 0 ≤ k + p ∧ k + p ≤ 1000000000000 := by
  have hm : isMap f = true := by
    cases hm : isMap f with
    | true => rfl
    | false => rw [(powR_bad hm).2] at hc; cases hc
  have hr : inR k 0 1000000000000 = true := by
    cases hr : inR k 0 1000000000000 with
    | true => rfl
    | false => rw [(powR_rng hm hr).2] at hc; cases hc
  have hf := (isMap_iff f).1 hm
  have hk0 := inR_true.1 hr
  rcases h with ⟨hb, _⟩ | ⟨_, n, k0, ha, hkn, he, rfl, rfl⟩
  · rw [hm] at hb; cases hb
  have hn := apart_le hf ha
  have hr2 : inR (k + ((n : Int) - k0)) 0 1000000000000 = true := inR_true.2 (by omega)
  obtain ⟨e1, e2⟩ := powR_good hm hr2
  obtain ⟨e3, _⟩ := powR_good hm hr
  refine ⟨e2, ?_, by omega, by omega⟩
  rw [e1, e3]
  have e4 : (k + ((n : Int) - k0)).toNat = k.toNat + (n - k0) := by omega
  rw [e4]
  exact pw_later hf he (by omega) (by omega)
theorem idem_law {g : M} (hm : isMap g = true) : cInv (isMap g) = 0 ∧ cInv (isMap (ipR g)) = 0 ∧ idemR (ipR g) = true ∧ fixR (ipR g) = cycR g ∧ rkR (ipR g) = ((cycR g).length : Int) := by
  have hf := (isMap_iff g).1 hm
  have hv := pw_valid hf 60
  have hp := pw_p g 60
  have hvm := (isMap_iff _).2 hv
  have hi := idem_60 hf
  rw [(ipR_good hm).1, hvm]
  refine ⟨(ipR_good hm).2, rfl, ?_, ?_, ?_⟩
  · unfold idemR isIdem; rw [hvm, hi]; simp
  · rw [fixR_good hvm, cycR_good hm, hp, cyc_fix hf]
  · rw [rkR_good hvm, cycR_good hm, cyc_fix hf, idem_rank hv hi, hp]
theorem fix_one {n : Nat} (h5 : n ≤ 5) : (sel (isFixed (one n)) n).length = n := by
  have e : sel (isFixed (one n)) n = ups n := by
    have : sel (isFixed (one n)) n = sel (fun _ => true) n := sel_ext fun k hk => by
      rw [isFixed, Int.toNat_natCast, at_one _ (by omega), if_pos (by omega)]
      simp
    rw [this]
    unfold sel
    exact List.filter_eq_self.2 fun _ _ => rfl
  rw [e, ups_length]
theorem inv_law {h : M} (hc : ivC h = 0) : codeLike h (ivR h) = 0 ∧ cInv (isMap (mulR h (ivR h))) = 0 ∧ ((fixR (mulR h (ivR h))).length : Int) = h.p := by
  have hm : isMap h = true := by
    cases hm : isMap h with
    | true => rfl
    | false => rw [(iv_bad hm).2] at hc; cases hc
  have hp : isP h = true := by
    cases hp : isP h with
    | true => rfl
    | false => rw [(iv_no hm hp).2] at hc; cases hc
  have hf := (isMap_iff h).1 hm
  have hrk : (rk h : Int) = h.p := by unfold isP at hp; exact of_decide_eq_true hp
  have hi := inv_valid hf
  have hlk : like h (inv h) = true := like_iff.2 ⟨hf, hi, (p_inv h).symm⟩
  rw [(iv_yes hm hp).1]
  have hmul : mulR h (inv h) = one h.p := by unfold mulR; rw [if_pos hlk]; exact mul_inv hf hrk
  have h1 := hf.p1
  have h5 := hf.p5
  have hone : isMap (one h.p) = true := (isMap_iff _).2 (Valid.one h1 h5)
  refine ⟨(codeLike_like _ _).1 hlk, by rw [hmul, hone]; rfl, ?_⟩
  rw [hmul, fixR_good hone, p_one]
  have := fix_one (n := h.p.toNat) (by omega)
  have e : ((h.p.toNat : Nat) : Int) = h.p := by omega
  rw [e] at this
  omega
theorem ren_law {u p : M} (hc : rnC u p = 0) : powC u 2 = 0 ∧ rnC (powR u 2) p = 0 ∧ powC (rnR u p) 2 = 0 ∧ rnR (powR u 2) p = powR (rnR u p) 2 := by
  have hl : codeLike u p = 0 := by
    refine Classical.byContradiction fun hne => ?_
    rw [(rn_bad hne).2] at hc
    exact hne hc
  have hp : isP p = true := by
    cases hp : isP p with
    | true => rfl
    | false => rw [(rn_no hl hp).2] at hc; cases hc
  obtain ⟨vu, vp, e⟩ := like_iff.1 ((codeLike_like u p).2 hl)
  have hrk : (rk p : Int) = p.p := by unfold isP at hp; exact of_decide_eq_true hp
  have hr2 : inR 2 0 1000000000000 = true := rfl
  obtain ⟨a1, a2⟩ := powR_good (k := 2) ((isMap_iff u).2 vu) hr2
  have vq := pw_valid vu 2
  have pq := pw_p u 2
  have a1 : powR u 2 = pw u 2 := a1
  have hl2 : codeLike (pw u 2) p = 0 := (codeLike_like _ _).1 (like_iff.2 ⟨vq, vp, by rw [pq, e]⟩)
  obtain ⟨b1, b2⟩ := rn_yes hl2 hp
  obtain ⟨c1, c2⟩ := rn_yes hl hp
  have vr := ren_valid vu vp e
  obtain ⟨d1, d2⟩ := powR_good (k := 2) ((isMap_iff _).2 vr.1) hr2
  have d1 : powR (ren u p) 2 = pw (ren u p) 2 := d1
  rw [a1, c1]
  refine ⟨a2, b2, d2, ?_⟩
  rw [b1, d1]
  exact ren_sq vu vp e hrk
end Go.Proofs.Ytkbfocoaobiijaa
