/- Contracts of ClassNumbers on both sides; the lists are as each theorem states. -/
import Derived.Test.YtneonacdjmfaoaaJK
import Derived.Test.YtneonacdjmfaoaaK1
namespace Go.Proofs.Ytneonacdjmfaoaa
open Go.RowKit
set_option maxRecDepth 100000
set_option linter.unusedSimpArgs false
set_option linter.unusedVariables false

theorem inR_four {k : Int} (h : inR k 0 3 = true) : k = 0 ∨ k = 1 ∨ k = 2 ∨ k = 3 := by
  unfold inR at h
  simp only [Bool.and_eq_true, decide_eq_true_eq] at h
  omega
theorem l03Kind_any (A : Option Addr) (N c : Nat) (E : List M) (Ag : Option Addr) (k cg : Nat) (ms : List M) {n : Int} (kind : Int) (hk0 : inR kind 0 3 = true)
    (w : World) (hx : RdM w w.heap.size A E) (hn : E.length = N) (hy : RdM w w.heap.size Ag ms) (hm2 : ms.length = k) (hN : N ≤ 300) (hk : k ≤ 6)
    (hM : Mnd n E) (hE : ∀ x, x ∈ E ↔ Mon ms n x) (hG : Pts n ms) :
    Calls Try.prog 46 #[.slice A N c, .slice Ag k cg, I kind] w (RetC (clsK E kind) w) := by
  rcases inR_four hk0 with rfl | rfl | rfl | rfl
  · exact l03Kind1_any A N c E Ag k cg ms 0 true false (.inl ⟨rfl, rfl, rfl⟩) w hx hn hy hm2 hN hk hM hE hG
  · exact l03Kind1_any A N c E Ag k cg ms 1 false true (.inr (.inl ⟨rfl, rfl, rfl⟩)) w hx hn hy hm2 hN hk hM hE hG
  · exact l03Kind2_any A N c E Ag k cg ms w hx hn hy hm2 hN hk hM hE hG
  · exact l03Kind1_any A N c E Ag k cg ms 3 true true (.inr (.inr ⟨rfl, rfl, rfl⟩)) w hx hn hy hm2 hN hk hM hE hG

/-- the code of a question about classes, and the classes' numbers -/
def cnC (ms xs : List M) (kind : Int) : Int := if codeL ms xs = 0 then (if inR kind 0 3 then monC ms xs else 2) else codeL ms xs
def cnR (ms : List M) (kind : Int) : List Int := if cnC ms [] kind = 0 then clsK (elR ms []) kind else []
theorem cnC_code {ms xs : List M} {kind : Int} (h : codeL ms xs ≠ 0) : cnC ms xs kind = codeL ms xs := if_neg h
theorem cnC_kind {ms xs : List M} {kind : Int} (h : codeL ms xs = 0) (hk : inR kind 0 3 = false) : cnC ms xs kind = 2 := by unfold cnC; rw [if_pos h, hk]; rfl
theorem cnC_mon {ms xs : List M} {kind : Int} (h : codeL ms xs = 0) (hk : inR kind 0 3 = true) : cnC ms xs kind = monC ms xs := by unfold cnC; rw [if_pos h, hk]; rfl
theorem cnR_bad {ms : List M} {kind : Int} (h : cnC ms [] kind ≠ 0) : cnR ms kind = [] := if_neg h
theorem cnR_len (ms : List M) (kind : Int) : (cnR ms kind).length ≤ 300 := by
  unfold cnR
  split
  · rename_i h
    rw [clsK_length]
    unfold cnC at h
    split at h
    · rename_i h1
      split at h
      · rw [monC_nil] at h
        obtain ⟨E, ps, hE⟩ := elC_el h
        rw [hE.r]; exact hE.len
      · cases h
    · rename_i h1; exact absurd h h1
  · simp

set_option maxHeartbeats 1000000 in
theorem SpecCN_any (A : Option Addr) (n c : Nat) (ms : List M) (kind : Int) (w : World) (hx : RdM w w.heap.size A ms) (hn : ms.length = n) (hb : n < 1073741824) :
    Calls Try.prog 27 #[.slice A n c, I kind] w (RetSI (cnR ms kind) (cnC ms [] kind) w) := by
  have Hx := Lib.hid hx
  have Hn := Lib.hid hn
  clear hx hn
  by_cases hc : codeL ms [] = 0
  · by_cases hk : inR kind 0 3 = true
    · have hC := cnC_mon hc hk
      by_cases hm : monC ms [] = 0
      · obtain ⟨E, ps, hE, _⟩ := monC_el hm
        have hR : cnR ms kind = clsK E kind := by unfold cnR; rw [if_pos (by rw [hC]; exact hm), hE.r]
        have hG : gR ms [] = E := by unfold gR; rw [if_pos hm, hE.r]
        have hlen := hE.len
        have hn6 := hE.n6
        rw [hm] at hC
        obtain ⟨N, hN⟩ : ∃ N, E.length = N := ⟨_, rfl⟩
        rw [hN] at hlen
        have HR := Lib.hid hR
        have HC := Lib.hid hC
        have HG := Lib.hid hG
        have HN := Lib.hid hN
        have HE := Lib.hid hE
        have Hm := Lib.hid hm
        have Hc := Lib.hid hc
        have Hk := Lib.hid hk
        have hn6' : n ≤ 6 := by rw [← Hn.out]; exact hn6
        clear hE hR hG hN hC hm hc hk hn6
        go_enter Try.func27, Try.ntmps27
        go_wp2_with fail
        refine (l02Given_any A none n c 0 0 ms [] w Hx.out Rd.nil_ Hn.out rfl hb (by decide)).mono ?_
        rintro e w1 ⟨rfl, hb1⟩
        rw [Hc.out]
        have Hb1 := Lib.hid hb1
        have hz1 := hb1.size
        clear hb1
        go_wp2_with fail
        refine (l01In_any kind 0 3 w1).mono ?_
        rintro e w2 ⟨rfl, rfl⟩
        rw [Hk.out]
        go_wp2_with fail
        refine (l03Given_any A none n c 0 0 ms [] w1 (Rd.more (Rd.below Hx.out Hb1.out) hz1) Rd.nil_ Hn.out rfl hb (by decide)).mono ?_
        rintro e w2 ⟨A', c', v, rfl, hr, hv, hb2⟩
        rw [HG.out] at hr ⊢
        rw [Hm.out, HN.out]
        obtain ⟨Av, cv, hvv, _⟩ := hv.form
        subst hvv
        have Hr := Lib.hid hr
        have Hb2 := Lib.hid (Hb1.out.trans (hb2.mono hz1))
        have hz2 := Hb2.out.size
        clear hr hv hb2
        go_wp2_with fail
        refine (l03Kind_any A' N c' E A n c ms kind Hk.out w2 Hr.out HN.out (Rd.more (Rd.below Hx.out Hb2.out) hz2) Hn.out hlen hn6' HE.out.mnd HE.out.mem HE.out.G).mono ?_
        rintro e w3 ⟨v, rfl, ho, hb3⟩
        obtain ⟨A3, c3, hv3, hr3⟩ := ho.form
        subst hv3
        have H3 := Lib.hid hr3
        have Hb3 := Lib.hid (Hb2.out.trans (hb3.mono hz2))
        clear ho hr3 hb3
        go_wp2_with fail
        go_ret2
        exact .mk A3 c3 (by rw [HR.out, HC.out] <;> rfl) (by rw [HR.out]; exact H3.out) Hb3.out
      · have hR := cnR_bad (ms := ms) (kind := kind) (by rw [hC]; exact hm)
        have hne : (monC ms [] != 0) = true := by simpa using hm
        have HR := Lib.hid hR
        have HC := Lib.hid hC
        have Hc := Lib.hid hc
        have Hk := Lib.hid hk
        clear hR hC hm hc hk
        go_enter Try.func27, Try.ntmps27
        go_wp2_with fail
        refine (l02Given_any A none n c 0 0 ms [] w Hx.out Rd.nil_ Hn.out rfl hb (by decide)).mono ?_
        rintro e w1 ⟨rfl, hb1⟩
        rw [Hc.out]
        have Hb1 := Lib.hid hb1
        have hz1 := hb1.size
        clear hb1
        go_wp2_with fail
        refine (l01In_any kind 0 3 w1).mono ?_
        rintro e w2 ⟨rfl, rfl⟩
        rw [Hk.out]
        go_wp2_with fail
        refine (l03Given_any A none n c 0 0 ms [] w1 (Rd.more (Rd.below Hx.out Hb1.out) hz1) Rd.nil_ Hn.out rfl hb (by decide)).mono ?_
        rintro e w2 ⟨A', c', v, rfl, hr, hv, hb2⟩
        obtain ⟨Av, cv, hvv, _⟩ := hv.form
        subst hvv
        have Hb2 := Lib.hid (Hb1.out.trans (hb2.mono hz1))
        clear hr hv hb2
        go_wp2_with fail
        go_ret2
        exact .mk none 0 (by rw [HR.out, HC.out] <;> rfl) (by rw [HR.out]; exact Rd.nil_) Hb2.out
    · rw [Bool.not_eq_true] at hk
      have hC := cnC_kind hc hk
      have hR := cnR_bad (ms := ms) (kind := kind) (by rw [hC]; decide)
      have HR := Lib.hid hR
      have HC := Lib.hid hC
      have Hc := Lib.hid hc
      have Hk := Lib.hid hk
      clear hR hC hc hk
      go_enter Try.func27, Try.ntmps27
      go_wp2_with fail
      refine (l02Given_any A none n c 0 0 ms [] w Hx.out Rd.nil_ Hn.out rfl hb (by decide)).mono ?_
      rintro e w1 ⟨rfl, hb1⟩
      rw [Hc.out]
      have Hb1 := Lib.hid hb1
      clear hb1
      go_wp2_with fail
      refine (l01In_any kind 0 3 w1).mono ?_
      rintro e w2 ⟨rfl, rfl⟩
      rw [Hk.out]
      go_wp2_with fail
      go_ret2
      exact .mk none 0 (by rw [HR.out, HC.out] <;> rfl) (by rw [HR.out]; exact Rd.nil_) Hb1.out
  · have hC := cnC_code (kind := kind) hc
    have hR := cnR_bad (ms := ms) (kind := kind) (by rw [hC]; exact hc)
    have hne : (codeL ms [] != 0) = true := by simpa using hc
    have hne2 : (codeL ms [] == 0) = false := by simpa using hc
    have HR := Lib.hid hR
    have HC := Lib.hid hC
    clear hR hC hc
    go_enter Try.func27, Try.ntmps27
    go_wp2_with fail
    refine (l02Given_any A none n c 0 0 ms [] w Hx.out Rd.nil_ Hn.out rfl hb (by decide)).mono ?_
    rintro e w1 ⟨rfl, hb1⟩
    have Hb1 := Lib.hid hb1
    clear hb1
    go_wp2_with fail
    go_ret2
    exact .mk none 0 (by rw [HR.out, HC.out] <;> rfl) (by rw [HR.out]; exact Rd.nil_) Hb1.out

set_option maxHeartbeats 1000000 in
theorem ImplCN_any (A : Option Addr) (n c : Nat) (ms : List M) (kind : Int) (w : World) (hx : RdM w w.heap.size A ms) (hn : ms.length = n) (hA : A = none → n = 0 ∧ c = 0) (hb : n < 536870912) :
    Calls Try.prog 28 #[.slice A n c, I kind] w (RetI (cnR ms kind) (cnC ms [] kind) w) := by
  have Hx := Lib.hid hx
  have Hn := Lib.hid hn
  have HA := Lib.hid hA
  clear hx hn hA
  by_cases hc : codeL ms [] = 0
  · by_cases hk : inR kind 0 3 = true
    · have hC := cnC_mon hc hk
      by_cases hm : monC ms [] = 0
      · obtain ⟨E, ps, hE, _⟩ := monC_el hm
        have hR : cnR ms kind = clsK E kind := by unfold cnR; rw [if_pos (by rw [hC]; exact hm), hE.r]
        rw [hm] at hC
        have HR := Lib.hid hR
        have HC := Lib.hid hC
        have HE := Lib.hid hE
        have Hm := Lib.hid hm
        have Hc := Lib.hid hc
        have Hk := Lib.hid hk
        clear hE hR hC hm hc hk
        go_enter Try.func28, Try.ntmps28
        go_wp2_with fail
        refine (listCode_any A none n c 0 0 ms [] w Hx.out Rd.nil_ Hn.out rfl HA.out (fun _ => ⟨rfl, rfl⟩) (by omega)).mono ?_
        rintro e w1 ⟨rfl, hb1⟩
        rw [Hc.out]
        have Hb1 := Lib.hid hb1
        have hz1 := hb1.size
        clear hb1
        go_wp2_with fail
        refine (isKind_any kind w1).mono ?_
        rintro e w2 ⟨rfl, hb2⟩
        rw [Hk.out]
        have Hb2 := Lib.hid (Hb1.out.trans (hb2.mono hz1))
        have hz2 := Hb2.out.size
        clear hb2
        go_wp2_with fail
        refine (monoidOf_any A none n c 0 0 ms [] w2 (Rd.more (Rd.below Hx.out Hb2.out) hz2) Rd.nil_ Hn.out rfl HA.out (fun _ => ⟨rfl, rfl⟩) (by omega)).mono ?_
        rintro e w3 ⟨r, v, rfl, hb3, hr0, hs⟩
        obtain ⟨g0, rfl, hM, hv⟩ := hs ps HE.out.clo Hm.out
        rw [← HE.out.eq] at hM
        rw [Hm.out]
        obtain ⟨Av, cv, hvv, hrv⟩ := hv.form
        subst hvv
        have HM := Lib.hid hM
        have Hb3 := Lib.hid (Hb2.out.trans (hb3.mono hz2))
        have hz3 := Hb3.out.size
        clear hM hs hr0 hv hrv hb3
        go_wp2_with fail
        refine (ideals_any w3 HM.out HE.out.len HE.out.mnd).mono ?_
        rintro e w4 ⟨d, rfl, hI, hb4⟩
        have HI := Lib.hid hI
        have Hb4 := Lib.hid (Hb3.out.trans (hb4.mono hz3))
        have hz4 := Hb4.out.size
        clear hI hb4
        go_wp2_with fail
        refine (classes_any w4 HI.out HE.out.len HE.out.mnd).mono ?_
        rintro e w5 ⟨v, rfl, ho, hb5⟩
        obtain ⟨A3, c3, hv3, hr3⟩ := ho.form
        subst hv3
        have H3 := Lib.hid (ho.mono hz4)
        have Hb5 := Lib.hid (Hb4.out.trans (hb5.mono hz4))
        clear ho hr3 hb5
        go_wp2_with fail
        go_ret2
        exact .mk _ (by rw [HC.out] <;> rfl) (by rw [HR.out]; exact H3.out) Hb5.out
      · have hR := cnR_bad (ms := ms) (kind := kind) (by rw [hC]; exact hm)
        have hne : (monC ms [] != 0) = true := by simpa using hm
        have HR := Lib.hid hR
        have HC := Lib.hid hC
        have Hm := Lib.hid hm
        have Hc := Lib.hid hc
        have Hk := Lib.hid hk
        clear hR hC hm hc hk
        go_enter Try.func28, Try.ntmps28
        go_wp2_with fail
        refine (listCode_any A none n c 0 0 ms [] w Hx.out Rd.nil_ Hn.out rfl HA.out (fun _ => ⟨rfl, rfl⟩) (by omega)).mono ?_
        rintro e w1 ⟨rfl, hb1⟩
        rw [Hc.out]
        have Hb1 := Lib.hid hb1
        have hz1 := hb1.size
        clear hb1
        go_wp2_with fail
        refine (isKind_any kind w1).mono ?_
        rintro e w2 ⟨rfl, hb2⟩
        rw [Hk.out]
        have Hb2 := Lib.hid (Hb1.out.trans (hb2.mono hz1))
        have hz2 := Hb2.out.size
        clear hb2
        go_wp2_with fail
        refine (monoidOf_any A none n c 0 0 ms [] w2 (Rd.more (Rd.below Hx.out Hb2.out) hz2) Rd.nil_ Hn.out rfl HA.out (fun _ => ⟨rfl, rfl⟩) (by omega)).mono ?_
        rintro e w3 ⟨r, v, rfl, hb3, hr0, hs⟩
        obtain ⟨rfl, rfl⟩ := hr0 Hm.out
        have Hb3 := Lib.hid (Hb2.out.trans (hb3.mono hz2))
        clear hs hr0 hb3
        go_wp2_with fail
        go_ret2
        exact .mk _ (by rw [HC.out] <;> rfl) (by rw [HR.out]; exact OwI.nil_) Hb3.out
    · rw [Bool.not_eq_true] at hk
      have hC := cnC_kind hc hk
      have hR := cnR_bad (ms := ms) (kind := kind) (by rw [hC]; decide)
      have HR := Lib.hid hR
      have HC := Lib.hid hC
      have Hc := Lib.hid hc
      have Hk := Lib.hid hk
      clear hR hC hc hk
      go_enter Try.func28, Try.ntmps28
      go_wp2_with fail
      refine (listCode_any A none n c 0 0 ms [] w Hx.out Rd.nil_ Hn.out rfl HA.out (fun _ => ⟨rfl, rfl⟩) (by omega)).mono ?_
      rintro e w1 ⟨rfl, hb1⟩
      rw [Hc.out]
      have Hb1 := Lib.hid hb1
      have hz1 := hb1.size
      clear hb1
      go_wp2_with fail
      refine (isKind_any kind w1).mono ?_
      rintro e w2 ⟨rfl, hb2⟩
      rw [Hk.out]
      have Hb2 := Lib.hid (Hb1.out.trans (hb2.mono hz1))
      clear hb2
      go_wp2_with fail
      go_ret2
      exact .mk _ (by rw [HC.out] <;> rfl) (by rw [HR.out]; exact OwI.nil_) Hb2.out
  · have hC := cnC_code (kind := kind) hc
    have hR := cnR_bad (ms := ms) (kind := kind) (by rw [hC]; exact hc)
    have hne : (codeL ms [] != 0) = true := by simpa using hc
    have HR := Lib.hid hR
    have HC := Lib.hid hC
    clear hR hC hc
    go_enter Try.func28, Try.ntmps28
    go_wp2_with fail
    refine (listCode_any A none n c 0 0 ms [] w Hx.out Rd.nil_ Hn.out rfl HA.out (fun _ => ⟨rfl, rfl⟩) (by omega)).mono ?_
    rintro e w1 ⟨rfl, hb1⟩
    have Hb1 := Lib.hid hb1
    clear hb1
    go_wp2_with fail
    go_ret2
    exact .mk _ (by rw [HC.out] <;> rfl) (by rw [HR.out]; exact OwI.nil_) Hb1.out
end Go.Proofs.Ytneonacdjmfaoaa
