/- Contracts of CentreOf, IdempotentsOf, SideZeros, IsCommutative and ZeroOf of the reference, and that they are those of the program; the lists are as each theorem states. -/
import Derived.Test.YtknknljkmkfmoaaN23
namespace Go.Proofs.Ytknknljkmkfmoaa
open Go.RowKit
set_option maxRecDepth 100000
set_option linter.unusedSimpArgs false

/-! ### the same lists -/
section
variable {ms xs E : List M} {ps : Met}
theorem pc_eq {n : Int} {E : List M} (hm : Mnd n E) {i k j l : Nat} (hi : i < E.length) (hk : k < E.length) (hj : j < E.length) (hl : l < E.length) : (pc E i k == pc E j l) = decide (mul (gm E i) (gm E k) = mul (gm E j) (gm E l)) := by
  rw [Bool.eq_iff_iff, beq_iff_eq, decide_eq_true_eq, ← gm_pc hm hi hk, ← gm_pc hm hj hl]
  exact ⟨fun h => by rw [h], fun h => gm_inj hm.asc.nodup (pc_lt hm hi hk) (pc_lt hm hj hl) h⟩
theorem pc_at {n : Int} {E : List M} (hm : Mnd n E) {i k z : Nat} (hi : i < E.length) (hk : k < E.length) (hz : z < E.length) : (pc E i k == z) = decide (mul (gm E i) (gm E k) = gm E z) := by
  rw [Bool.eq_iff_iff, beq_iff_eq, decide_eq_true_eq, ← gm_pc hm hi hk]
  exact ⟨fun h => by rw [h], fun h => gm_inj hm.asc.nodup (pc_lt hm hi hk) hz h⟩
theorem all_range {E : List M} {P : M → Bool} {p : Nat → Bool} (h : ∀ i, i < E.length → p i = P (gm E i)) : (List.range E.length).all p = E.all P := by
  conv => rhs; rw [← range_gm' E]
  rw [List.all_map]
  rw [Bool.eq_iff_iff, List.all_eq_true, List.all_eq_true]
  exact ⟨fun h2 i hi => by rw [Function.comp_apply, ← h i (List.mem_range.1 hi)]; exact h2 i hi, fun h2 i hi => by rw [h i (List.mem_range.1 hi)]; exact h2 i hi⟩
theorem centB_eq (hE : El ms xs E ps) {i : Nat} (hi : i < E.length) : centB E i = centS ms (gm E i) := by
  unfold centB
  rw [all_range (P := fun x => decide (mul (gm E i) x = mul x (gm E i))) fun k hk => pc_eq hE.mnd hi hk hk hi]
  rw [Bool.eq_iff_iff]
  unfold centS centQ
  simp only [List.all_eq_true, decide_eq_true_eq]
  exact central_iff hE.mnd hE.mem hE.G (gm_mem hi)
theorem sideB_eq (hE : El ms xs E ps) (r : Bool) {z : Nat} (hz : z < E.length) : sideB E r z = zeroS E r (gm E z) := by
  unfold sideB zeroS
  refine all_range fun i hi => ?_
  unfold sideP zeroQ
  cases r
  · exact pc_at hE.mnd hz hi hz
  · exact pc_at hE.mnd hi hz hz
theorem that_cent (h : elC ms [] = 0) : thatR centB ms = (elR ms []).filter (centS ms) := by
  obtain ⟨E, ps, hE⟩ := elC_el h
  unfold thatR
  rw [hE.r, thatE_congr (q := fun i => centS ms (gm E i)) fun i hi => centB_eq hE hi, thatE_filter]
theorem that_idem : thatR idemB ms = (elR ms []).filter isIdem := thatE_filter _ _
theorem that_side (h : elC ms [] = 0) (r : Bool) : thatR (fun E => sideB E r) ms = (elR ms []).filter (zeroS (elR ms []) r) := by
  obtain ⟨E, ps, hE⟩ := elC_el h
  unfold thatR
  rw [hE.r, thatE_congr (q := fun i => zeroS E r (gm E i)) fun i hi => sideB_eq hE r hi, thatE_filter]
theorem that_zero (h : elC ms [] = 0) : thatR zeroB ms = (elR ms []).filter fun z => zeroS (elR ms []) true z && zeroS (elR ms []) false z := by
  obtain ⟨E, ps, hE⟩ := elC_el h
  unfold thatR
  rw [hE.r, thatE_congr (q := fun i => zeroS E true (gm E i) && zeroS E false (gm E i)) fun i hi => by unfold zeroB; rw [sideB_eq hE true hi, sideB_eq hE false hi], thatE_filter (fun z => zeroS E true z && zeroS E false z)]
theorem that_bad {p : List M → Nat → Bool} (h : elC ms [] ≠ 0) : thatR p ms = [] := by unfold thatR; rw [elR_bad h]; rfl
theorem that_len (p : List M → Nat → Bool) (ms : List M) : (thatR p ms).length ≤ 300 := by
  unfold thatR thatE
  rw [List.length_map]
  have h1 := List.length_filter_le (p (elR ms [])) (List.range (elR ms []).length)
  rw [List.length_range] at h1
  by_cases h : elC ms [] = 0
  · obtain ⟨E, ps, hE⟩ := elC_el h
    have := hE.len
    rw [hE.r] at h1 ⊢
    omega
  · rw [elR_bad h] at h1 ⊢
    simp at h1 ⊢
theorem filter_all_len {P : M → Bool} : ∀ {E : List M}, decide ((E.filter P).length = E.length) = E.all P
  | [] => rfl
  | x :: E => by
    have ih := filter_all_len (P := P) (E := E)
    rw [List.filter_cons, List.all_cons]
    cases hp : P x
    · have := List.length_filter_le P E
      simp; omega
    · simp only [if_true, List.length_cons, Bool.true_and, ← ih]
      rw [Bool.eq_iff_iff]; simp
theorem com_eq (hE : El ms xs E ps) : comB E = decide ((E.filter (centS ms)).length = E.length) := by
  unfold comB
  rw [filter_all_len]
  exact all_range fun i hi => centB_eq hE hi
end

theorem SpecCentre_any (A : Option Addr) (n c : Nat) (ms : List M) (w : World) (hx : RdM w w.heap.size A ms) (hn : ms.length = n) (hb : n < 1073741824) :
    Calls Try.prog 53 #[.slice A n c] w (RetS (thatR centB ms) (elC ms []) w) := by
  have Hx := Lib.hid hx
  have Hn := Lib.hid hn
  clear hx hn
  by_cases hc : elC ms [] = 0
  · obtain ⟨E, ps, hE⟩ := elC_el hc
    have hR := that_cent hc
    rw [hE.r] at hR
    have hlen := hE.len
    have hp1 : 0 < n := by have := hE.n1; have := Hn.out; omega
    have HR := Lib.hid hR
    have HE := Lib.hid hE
    have Hc := Lib.hid hc
    clear hE hc hR
    go_enter Try.func53, Try.ntmps53
    go_wp2_with fail
    refine (l02Elements_any A none n c 0 0 ms [] _ Hx.out Rd.nil_ Hn.out rfl hb (by decide)).mono ?_
    rintro e w1 ⟨A', c', rfl, hr, hb1⟩
    rw [HE.out.r] at hr ⊢
    rw [Hc.out]
    have Hr := Lib.hid hr
    have Hb1 := Lib.hid hb1
    obtain ⟨N, hN⟩ : ∃ N, E.length = N := ⟨_, rfl⟩
    rw [hN] at hlen ⊢
    have HN := Lib.hid hN
    clear hr hb1 hN
    go_wp2_with fail
    refine (centreS0_any A' A N c' n c E ms (gm ms 0).p w1 Hr.out HN.out HE.out.mnd hlen (Rd.more (Rd.below Hx.out Hb1.out) Hb1.out.size) Hn.out HE.out.G hp1 hb).mono ?_
    rintro e w2 ⟨v, rfl, ho, hb2⟩
    obtain ⟨A2, c2, rfl, hr2⟩ := ho.form
    rw [← HR.out] at hr2 ⊢
    have Hr2 := Lib.hid hr2
    have Hb2 := Lib.hid (Hb1.out.trans (hb2.mono Hb1.out.size))
    clear ho hr2 hb2
    go_wp2
    go_ret2
    exact .mk A2 c2 (by rw [Hc.out] <;> rfl) Hr2.out Hb2.out
  · have HR := Lib.hid (that_bad (p := centB) hc)
    have hne : (elC ms [] != 0) = true := by simpa using hc
    clear hc
    go_enter Try.func53, Try.ntmps53
    go_wp2_with fail
    refine (l02Elements_any A none n c 0 0 ms [] _ Hx.out Rd.nil_ Hn.out rfl hb (by decide)).mono ?_
    rintro e w1 ⟨A', c', rfl, hr, hb1⟩
    clear hr
    go_wp2
    go_ret2
    exact .mk none 0 (by rw [HR.out] <;> rfl) (by rw [HR.out]; exact Rd.nil_) hb1

theorem SpecSide_any (A : Option Addr) (n c : Nat) (ms : List M) (r : Bool) (w : World) (hx : RdM w w.heap.size A ms) (hn : ms.length = n) (hb : n < 1073741824) :
    Calls Try.prog 55 #[.slice A n c, .bool r] w (RetS (thatR (fun E => sideB E r) ms) (elC ms []) w) := by
  have Hx := Lib.hid hx
  have Hn := Lib.hid hn
  clear hx hn
  by_cases hc : elC ms [] = 0
  · obtain ⟨E, ps, hE⟩ := elC_el hc
    have hR := that_side hc r
    rw [hE.r] at hR
    have hlen := hE.len
    have HR := Lib.hid hR
    have HE := Lib.hid hE
    have Hc := Lib.hid hc
    obtain ⟨R, hRR⟩ : ∃ R, R = thatR (fun E => sideB E r) ms := ⟨_, rfl⟩
    rw [← hRR] at HR ⊢
    clear hE hc hR hRR
    go_enter Try.func55, Try.ntmps55
    go_wp2_with fail
    refine (l02Elements_any A none n c 0 0 ms [] _ Hx.out Rd.nil_ Hn.out rfl hb (by decide)).mono ?_
    rintro e w1 ⟨A', c', rfl, hr, hb1⟩
    rw [HE.out.r] at hr ⊢
    rw [Hc.out]
    have Hr := Lib.hid hr
    have Hb1 := Lib.hid hb1
    obtain ⟨N, hN⟩ : ∃ N, E.length = N := ⟨_, rfl⟩
    rw [hN] at hlen ⊢
    have HN := Lib.hid hN
    clear hr hb1 hN
    go_wp2_with fail
    refine (zerosS_any A' N c' E (gm ms 0).p r w1 Hr.out HN.out HE.out.mnd hlen).mono ?_
    rintro e w2 ⟨v, rfl, ho, hb2⟩
    obtain ⟨A2, c2, rfl, hr2⟩ := ho.form
    rw [← HR.out] at hr2 ⊢
    have Hr2 := Lib.hid hr2
    have Hb2 := Lib.hid (Hb1.out.trans (hb2.mono Hb1.out.size))
    clear ho hr2 hb2
    go_wp2
    go_ret2
    exact .mk A2 c2 (by rw [Hc.out] <;> rfl) Hr2.out Hb2.out
  · have HR := Lib.hid (that_bad (p := fun E => sideB E r) hc)
    have hne : (elC ms [] != 0) = true := by simpa using hc
    obtain ⟨R, hRR⟩ : ∃ R, R = thatR (fun E => sideB E r) ms := ⟨_, rfl⟩
    rw [← hRR] at HR ⊢
    clear hc hRR
    go_enter Try.func55, Try.ntmps55
    go_wp2_with fail
    refine (l02Elements_any A none n c 0 0 ms [] _ Hx.out Rd.nil_ Hn.out rfl hb (by decide)).mono ?_
    rintro e w1 ⟨A', c', rfl, hr, hb1⟩
    clear hr
    go_wp2
    go_ret2
    exact .mk none 0 (by rw [HR.out] <;> rfl) (by rw [HR.out]; exact Rd.nil_) hb1

theorem SpecCom_any (A : Option Addr) (n c : Nat) (ms : List M) (w : World) (hx : RdM w w.heap.size A ms) (hn : ms.length = n) (hb : n < 1073741824) :
    Calls Try.prog 33 #[.slice A n c] w fun e w' => e = .returned (.tuple #[.bool (comR ms), I (elC ms [])]) ∧ Below w.heap.size w w' := by
  have Hx := Lib.hid hx
  have Hn := Lib.hid hn
  clear hx hn
  by_cases hc : elC ms [] = 0
  · obtain ⟨E, ps, hE⟩ := elC_el hc
    have hR : comR ms = decide ((E.filter (centS ms)).length = E.length) := by unfold comR; rw [decide_eq_true hc, Bool.true_and, hE.r, com_eq hE]
    have hlen := hE.len
    have hp1 : 0 < n := by have := hE.n1; have := Hn.out; omega
    have HR := Lib.hid hR
    have HE := Lib.hid hE
    have Hc := Lib.hid hc
    clear hE hc hR
    go_enter Try.func33, Try.ntmps33
    go_wp2_with fail
    refine (l02Elements_any A none n c 0 0 ms [] _ Hx.out Rd.nil_ Hn.out rfl hb (by decide)).mono ?_
    rintro e w1 ⟨A', c', rfl, hr, hb1⟩
    rw [HE.out.r] at hr ⊢
    rw [Hc.out]
    have Hr := Lib.hid hr
    have Hb1 := Lib.hid hb1
    obtain ⟨N, hN⟩ : ∃ N, E.length = N := ⟨_, rfl⟩
    rw [hN] at hlen HR ⊢
    have HN := Lib.hid hN
    clear hr hb1 hN
    go_wp2_with fail
    refine (centreS0_any A' A N c' n c E ms (gm ms 0).p w1 Hr.out HN.out HE.out.mnd hlen (Rd.more (Rd.below Hx.out Hb1.out) Hb1.out.size) Hn.out HE.out.G hp1 hb).mono ?_
    rintro e w2 ⟨v, rfl, ho, hb2⟩
    obtain ⟨A2, c2, rfl, hr2⟩ := ho.form
    obtain ⟨k, hk⟩ : ∃ k, k = (E.filter (centS ms)).length := ⟨_, rfl⟩
    rw [← hk] at HR ⊢
    have Hb2 := Lib.hid (Hb1.out.trans (hb2.mono Hb1.out.size))
    clear ho hr2 hb2 hk
    by_cases hkN : k = N
    · have hR2 : comR ms = true := by rw [HR.out]; exact decide_eq_true hkN
      have HR2 := Lib.hid hR2
      have hki : ((k : Int) == (N : Int)) = true := by simp [hkN]
      clear hkN hR2
      go_wp2
      go_ret2
      exact ⟨by rw [HR2.out, Hc.out] <;> rfl, Hb2.out⟩
    · have hR2 : comR ms = false := by rw [HR.out]; exact decide_eq_false hkN
      have HR2 := Lib.hid hR2
      have hki : ((k : Int) == (N : Int)) = false := by simp; omega
      clear hkN hR2
      go_wp2
      go_ret2
      exact ⟨by rw [HR2.out, Hc.out] <;> rfl, Hb2.out⟩
  · have hR : comR ms = false := by unfold comR; rw [decide_eq_false hc]; rfl
    have HR := Lib.hid hR
    have hne : (elC ms [] != 0) = true := by simpa using hc
    clear hc hR
    go_enter Try.func33, Try.ntmps33
    go_wp2_with fail
    refine (l02Elements_any A none n c 0 0 ms [] _ Hx.out Rd.nil_ Hn.out rfl hb (by decide)).mono ?_
    rintro e w1 ⟨A', c', rfl, hr, hb1⟩
    clear hr
    go_wp2
    go_ret2
    exact ⟨by rw [HR.out] <;> rfl, hb1⟩
end Go.Proofs.Ytknknljkmkfmoaa
