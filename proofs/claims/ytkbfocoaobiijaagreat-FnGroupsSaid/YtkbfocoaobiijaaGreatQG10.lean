/- Contracts of ClassNumbers on both sides; the lists are as each theorem states. Contracts of CountClasses on both sides; the lists are as each theorem states. Contracts of the functions that keep the points of a map that are such; the maps are valid where the theorems say so. Contracts of the points that are kept, for each test; the maps are valid where the theorems say so. Contracts of powers; the maps are valid as each theorem states. Contracts of sets of points as digits in base 2, and of the cyclic points; the maps are valid where the theorems say so. The kit's own contracts of the library's functions at this translation, laid by the kit's tools; no conditions beyond those that each theorem states. Contracts of the library's functions on lists of numbers: less, index, contains; no conditions beyond those that each theorem states. Lists without repetitions, in plain words; no conditions. Contract of the function that strikes neighbours that are alike; the list is a row of the call's own. Contracts of images of sets and of ranks; the maps are valid where the theorems say so. Contracts of ranks, inverses and renumbered maps; the maps are valid where the theorems say so. Plain laws of ranks of products and of the ranks of classes; no program in sight. Contracts of RanksOfClasses on both sides; the lists are as each theorem states. The walk of the statement on RanksOfClasses; the lists lie below the heap's end. Results of the laws' calls in one form each; no conditions beyond those that the theorems state. -/
import Derived.Test.YtkbfocoaobiijaaGreatQG09
import Derived.Test.YtkbfocoaobiijaaGreatProg
import Derived.Lib.SliceRun
import Derived.IntWalk
import Derived.Deep.QuietTactic
import Derived.BigQuiet
import Derived.Laws.BitsLemmas
import Derived.Shelf.Small.Bits
import Derived.Shelf.Strconv.Itoa0
import Derived.RegionTactic
import Derived.ChangeAlike
import Derived.Deep.RegionWith
set_option linter.unusedSimpArgs false
set_option linter.unusedVariables false
namespace Go.Proofs.YtkbfocoaobiijaaGreat
open Go.RowKit
set_option maxRecDepth 100000
set_option linter.unusedSimpArgs false
set_option linter.unusedVariables false
theorem inR_four {k : Int} (h : inR k 0 3 = true) : k = 0 ∨ k = 1 ∨ k = 2 ∨ k = 3 := by
  unfold inR at h
  simp only [Bool.and_eq_true, decide_eq_true_eq] at h
  omega
theorem l03Kind_any (A : Option Addr) (N c : Nat) (E : List M) (Ag : Option Addr) (k cg : Nat) (ms : List M) {n : Int} (kind : Int) (hk0 : inR kind 0 3 = true)
    (w : World) (hx : RdM w w.heap.size A E) (hn : E.length = N) (hy : RdM w w.heap.size Ag ms) (hm2 : ms.length = k) (hN : N ≤ 300) (hk : k ≤ 6)
    (hM : Mnd n E) (hE : ∀ x, x ∈ E ↔ Mon ms n x) (hG : Pts n ms) :
    Calls Tryz.prog 152 #[.slice A N c, .slice Ag k cg, I kind] w (RetC (clsK E kind) w) := by
  rcases inR_four hk0 with rfl | rfl | rfl | rfl
  · exact l03Kind1_any A N c E Ag k cg ms 0 true false (.inl ⟨rfl, rfl, rfl⟩) w hx hn hy hm2 hN hk hM hE hG
  · exact l03Kind1_any A N c E Ag k cg ms 1 false true (.inr (.inl ⟨rfl, rfl, rfl⟩)) w hx hn hy hm2 hN hk hM hE hG
  · exact l03Kind2_any A N c E Ag k cg ms w hx hn hy hm2 hN hk hM hE hG
  · exact l03Kind1_any A N c E Ag k cg ms 3 true true (.inr (.inr ⟨rfl, rfl, rfl⟩)) w hx hn hy hm2 hN hk hM hE hG
def cnC (ms xs : List M) (kind : Int) : Int := if codeL ms xs = 0 then (if inR kind 0 3 then monC ms xs else 2) else codeL ms xs
def cnR (ms : List M) (kind : Int) : List Int := if cnC ms [] kind = 0 then clsK (elR ms []) kind else []
theorem cnC_code {ms xs : List M} {kind : Int} (h : codeL ms xs ≠ 0) : cnC ms xs kind = codeL ms xs := if_neg h
theorem cnC_kind {ms xs : List M} {kind : Int} (h : codeL ms xs = 0) (hk : inR kind 0 3 = false) : cnC ms xs kind = 2 := by unfold cnC; rw [if_pos h, hk]; rfl
theorem cnC_mon {ms xs : List M} {kind : Int} (h : codeL ms xs = 0) (hk : inR kind 0 3 = true) : cnC ms xs kind = monC ms xs := by unfold cnC; rw [if_pos h, hk]; rfl
theorem cnR_bad {ms : List M} {kind : Int} (h : cnC ms [] kind ≠ 0) : cnR ms kind = [] := if_neg h
theorem cnR_len (ms : List M) (kind : Int) : (cnR ms kind).length ≤ 300 := by
  unfold cnR
  split
  · rename_i h
    rw [clsK_length]
    unfold cnC at h
    split at h
    · rename_i h1
      split at h
      · rw [monC_nil] at h
        obtain ⟨E, ps, hE⟩ := elC_el h
        rw [hE.r]; exact hE.len
      · cases h
    · rename_i h1; exact absurd h h1
  · simp
set_option maxHeartbeats 1000000 in
theorem SpecCN_any (A : Option Addr) (n c : Nat) (ms : List M) (kind : Int) (w : World) (hx : RdM w w.heap.size A ms) (hn : ms.length = n) (hb : n < 1073741824) :
    Calls Tryz.prog 45 #[.slice A n c, I kind] w (RetSI (cnR ms kind) (cnC ms [] kind) w) := by
  have Hx := Lib.hid hx
  have Hn := Lib.hid hn
  clear hx hn
  by_cases hc : codeL ms [] = 0
  · by_cases hk : inR kind 0 3 = true
    · have hC := cnC_mon hc hk
      by_cases hm : monC ms [] = 0
      · obtain ⟨E, ps, hE, _⟩ := monC_el hm
        have hR : cnR ms kind = clsK E kind := by unfold cnR; rw [if_pos (by rw [hC]; exact hm), hE.r]
        have hG : gR ms [] = E := by unfold gR; rw [if_pos hm, hE.r]
        have hlen := hE.len
        have hn6 := hE.n6
        rw [hm] at hC
        obtain ⟨N, hN⟩ : ∃ N, E.length = N := ⟨_, rfl⟩
        rw [hN] at hlen
        have HR := Lib.hid hR
        have HC := Lib.hid hC
        have HG := Lib.hid hG
        have HN := Lib.hid hN
        have HE := Lib.hid hE
        have Hm := Lib.hid hm
        have Hc := Lib.hid hc
        have Hk := Lib.hid hk
        have hn6' : n ≤ 6 := by rw [← Hn.out]; exact hn6
        clear hE hR hG hN hC hm hc hk hn6
        go_enter Tryz.func45, Tryz.ntmps45
        go_wp2_with fail
        refine (l02Given_any A none n c 0 0 ms [] w Hx.out Rd.nil_ Hn.out rfl hb (by decide)).mono ?_
        rintro e w1 ⟨rfl, hb1⟩
        rw [Hc.out]
        have Hb1 := Lib.hid hb1
        have hz1 := hb1.size
        clear hb1
        go_wp2_with fail
        refine (l01In_any kind 0 3 w1).mono ?_
        rintro e w2 ⟨rfl, rfl⟩
        rw [Hk.out]
        go_wp2_with fail
        refine (l03Given_any A none n c 0 0 ms [] w1 (Rd.more (Rd.below Hx.out Hb1.out) hz1) Rd.nil_ Hn.out rfl hb (by decide)).mono ?_
        rintro e w2 ⟨A', c', v, rfl, hr, hv, hb2⟩
        rw [HG.out] at hr ⊢
        rw [Hm.out, HN.out]
        obtain ⟨Av, cv, hvv, _⟩ := hv.form
        subst hvv
        have Hr := Lib.hid hr
        have Hb2 := Lib.hid (Hb1.out.trans (hb2.mono hz1))
        have hz2 := Hb2.out.size
        clear hr hv hb2
        go_wp2_with fail
        refine (l03Kind_any A' N c' E A n c ms kind Hk.out w2 Hr.out HN.out (Rd.more (Rd.below Hx.out Hb2.out) hz2) Hn.out hlen hn6' HE.out.mnd HE.out.mem HE.out.G).mono ?_
        rintro e w3 ⟨v, rfl, ho, hb3⟩
        obtain ⟨A3, c3, hv3, hr3⟩ := ho.form
        subst hv3
        have H3 := Lib.hid hr3
        have Hb3 := Lib.hid (Hb2.out.trans (hb3.mono hz2))
        clear ho hr3 hb3
        go_wp2_with fail
        go_ret2
        exact .mk A3 c3 (by rw [HR.out, HC.out] <;> rfl) (by rw [HR.out]; exact H3.out) Hb3.out
      · have hR := cnR_bad (ms := ms) (kind := kind) (by rw [hC]; exact hm)
        have hne : (monC ms [] != 0) = true := by simpa using hm
        have HR := Lib.hid hR
        have HC := Lib.hid hC
        have Hc := Lib.hid hc
        have Hk := Lib.hid hk
        clear hR hC hm hc hk
        go_enter Tryz.func45, Tryz.ntmps45
        go_wp2_with fail
        refine (l02Given_any A none n c 0 0 ms [] w Hx.out Rd.nil_ Hn.out rfl hb (by decide)).mono ?_
        rintro e w1 ⟨rfl, hb1⟩
        rw [Hc.out]
        have Hb1 := Lib.hid hb1
        have hz1 := hb1.size
        clear hb1
        go_wp2_with fail
        refine (l01In_any kind 0 3 w1).mono ?_
        rintro e w2 ⟨rfl, rfl⟩
        rw [Hk.out]
        go_wp2_with fail
        refine (l03Given_any A none n c 0 0 ms [] w1 (Rd.more (Rd.below Hx.out Hb1.out) hz1) Rd.nil_ Hn.out rfl hb (by decide)).mono ?_
        rintro e w2 ⟨A', c', v, rfl, hr, hv, hb2⟩
        obtain ⟨Av, cv, hvv, _⟩ := hv.form
        subst hvv
        have Hb2 := Lib.hid (Hb1.out.trans (hb2.mono hz1))
        clear hr hv hb2
        go_wp2_with fail
        go_ret2
        exact .mk none 0 (by rw [HR.out, HC.out] <;> rfl) (by rw [HR.out]; exact Rd.nil_) Hb2.out
    · rw [Bool.not_eq_true] at hk
      have hC := cnC_kind hc hk
      have hR := cnR_bad (ms := ms) (kind := kind) (by rw [hC]; decide)
      have HR := Lib.hid hR
      have HC := Lib.hid hC
      have Hc := Lib.hid hc
      have Hk := Lib.hid hk
      clear hR hC hc hk
      go_enter Tryz.func45, Tryz.ntmps45
      go_wp2_with fail
      refine (l02Given_any A none n c 0 0 ms [] w Hx.out Rd.nil_ Hn.out rfl hb (by decide)).mono ?_
      rintro e w1 ⟨rfl, hb1⟩
      rw [Hc.out]
      have Hb1 := Lib.hid hb1
      clear hb1
      go_wp2_with fail
      refine (l01In_any kind 0 3 w1).mono ?_
      rintro e w2 ⟨rfl, rfl⟩
      rw [Hk.out]
      go_wp2_with fail
      go_ret2
      exact .mk none 0 (by rw [HR.out, HC.out] <;> rfl) (by rw [HR.out]; exact Rd.nil_) Hb1.out
  · have hC := cnC_code (kind := kind) hc
    have hR := cnR_bad (ms := ms) (kind := kind) (by rw [hC]; exact hc)
    have hne : (codeL ms [] != 0) = true := by simpa using hc
    have hne2 : (codeL ms [] == 0) = false := by simpa using hc
    have HR := Lib.hid hR
    have HC := Lib.hid hC
    clear hR hC hc
    go_enter Tryz.func45, Tryz.ntmps45
    go_wp2_with fail
    refine (l02Given_any A none n c 0 0 ms [] w Hx.out Rd.nil_ Hn.out rfl hb (by decide)).mono ?_
    rintro e w1 ⟨rfl, hb1⟩
    have Hb1 := Lib.hid hb1
    clear hb1
    go_wp2_with fail
    go_ret2
    exact .mk none 0 (by rw [HR.out, HC.out] <;> rfl) (by rw [HR.out]; exact Rd.nil_) Hb1.out
set_option maxHeartbeats 1000000 in
theorem ImplCN_any (A : Option Addr) (n c : Nat) (ms : List M) (kind : Int) (w : World) (hx : RdM w w.heap.size A ms) (hn : ms.length = n) (hA : A = none → n = 0 ∧ c = 0) (hb : n < 536870912) :
    Calls Tryz.prog 39 #[.slice A n c, I kind] w (RetI (cnR ms kind) (cnC ms [] kind) w) := by
  have Hx := Lib.hid hx
  have Hn := Lib.hid hn
  have HA := Lib.hid hA
  clear hx hn hA
  by_cases hc : codeL ms [] = 0
  · by_cases hk : inR kind 0 3 = true
    · have hC := cnC_mon hc hk
      by_cases hm : monC ms [] = 0
      · obtain ⟨E, ps, hE, _⟩ := monC_el hm
        have hR : cnR ms kind = clsK E kind := by unfold cnR; rw [if_pos (by rw [hC]; exact hm), hE.r]
        rw [hm] at hC
        have HR := Lib.hid hR
        have HC := Lib.hid hC
        have HE := Lib.hid hE
        have Hm := Lib.hid hm
        have Hc := Lib.hid hc
        have Hk := Lib.hid hk
        clear hE hR hC hm hc hk
        go_enter Tryz.func39, Tryz.ntmps39
        go_wp2_with fail
        refine (listCode_any A none n c 0 0 ms [] w Hx.out Rd.nil_ Hn.out rfl HA.out (fun _ => ⟨rfl, rfl⟩) (by omega)).mono ?_
        rintro e w1 ⟨rfl, hb1⟩
        rw [Hc.out]
        have Hb1 := Lib.hid hb1
        have hz1 := hb1.size
        clear hb1
        go_wp2_with fail
        refine (isKind_any kind w1).mono ?_
        rintro e w2 ⟨rfl, hb2⟩
        rw [Hk.out]
        have Hb2 := Lib.hid (Hb1.out.trans (hb2.mono hz1))
        have hz2 := Hb2.out.size
        clear hb2
        go_wp2_with fail
        refine (monoidOf_any A none n c 0 0 ms [] w2 (Rd.more (Rd.below Hx.out Hb2.out) hz2) Rd.nil_ Hn.out rfl HA.out (fun _ => ⟨rfl, rfl⟩) (by omega)).mono ?_
        rintro e w3 ⟨r, v, rfl, hb3, hr0, hs⟩
        obtain ⟨g0, rfl, hM, hv⟩ := hs ps HE.out.clo Hm.out
        rw [← HE.out.eq] at hM
        rw [Hm.out]
        obtain ⟨Av, cv, hvv, hrv⟩ := hv.form
        subst hvv
        have HM := Lib.hid hM
        have Hb3 := Lib.hid (Hb2.out.trans (hb3.mono hz2))
        have hz3 := Hb3.out.size
        clear hM hs hr0 hv hrv hb3
        go_wp2_with fail
        refine (ideals_any w3 HM.out HE.out.len HE.out.mnd).mono ?_
        rintro e w4 ⟨d, rfl, hI, hb4⟩
        have HI := Lib.hid hI
        have Hb4 := Lib.hid (Hb3.out.trans (hb4.mono hz3))
        have hz4 := Hb4.out.size
        clear hI hb4
        go_wp2_with fail
        refine (classes_any w4 HI.out HE.out.len HE.out.mnd).mono ?_
        rintro e w5 ⟨v, rfl, ho, hb5⟩
        obtain ⟨A3, c3, hv3, hr3⟩ := ho.form
        subst hv3
        have H3 := Lib.hid (ho.mono hz4)
        have Hb5 := Lib.hid (Hb4.out.trans (hb5.mono hz4))
        clear ho hr3 hb5
        go_wp2_with fail
        go_ret2
        exact .mk _ (by rw [HC.out] <;> rfl) (by rw [HR.out]; exact H3.out) Hb5.out
      · have hR := cnR_bad (ms := ms) (kind := kind) (by rw [hC]; exact hm)
        have hne : (monC ms [] != 0) = true := by simpa using hm
        have HR := Lib.hid hR
        have HC := Lib.hid hC
        have Hm := Lib.hid hm
        have Hc := Lib.hid hc
        have Hk := Lib.hid hk
        clear hR hC hm hc hk
        go_enter Tryz.func39, Tryz.ntmps39
        go_wp2_with fail
        refine (listCode_any A none n c 0 0 ms [] w Hx.out Rd.nil_ Hn.out rfl HA.out (fun _ => ⟨rfl, rfl⟩) (by omega)).mono ?_
        rintro e w1 ⟨rfl, hb1⟩
        rw [Hc.out]
        have Hb1 := Lib.hid hb1
        have hz1 := hb1.size
        clear hb1
        go_wp2_with fail
        refine (isKind_any kind w1).mono ?_
        rintro e w2 ⟨rfl, hb2⟩
        rw [Hk.out]
        have Hb2 := Lib.hid (Hb1.out.trans (hb2.mono hz1))
        have hz2 := Hb2.out.size
        clear hb2
        go_wp2_with fail
        refine (monoidOf_any A none n c 0 0 ms [] w2 (Rd.more (Rd.below Hx.out Hb2.out) hz2) Rd.nil_ Hn.out rfl HA.out (fun _ => ⟨rfl, rfl⟩) (by omega)).mono ?_
        rintro e w3 ⟨r, v, rfl, hb3, hr0, hs⟩
        obtain ⟨rfl, rfl⟩ := hr0 Hm.out
        have Hb3 := Lib.hid (Hb2.out.trans (hb3.mono hz2))
        clear hs hr0 hb3
        go_wp2_with fail
        go_ret2
        exact .mk _ (by rw [HC.out] <;> rfl) (by rw [HR.out]; exact OwI.nil_) Hb3.out
    · rw [Bool.not_eq_true] at hk
      have hC := cnC_kind hc hk
      have hR := cnR_bad (ms := ms) (kind := kind) (by rw [hC]; decide)
      have HR := Lib.hid hR
      have HC := Lib.hid hC
      have Hc := Lib.hid hc
      have Hk := Lib.hid hk
      clear hR hC hc hk
      go_enter Tryz.func39, Tryz.ntmps39
      go_wp2_with fail
      refine (listCode_any A none n c 0 0 ms [] w Hx.out Rd.nil_ Hn.out rfl HA.out (fun _ => ⟨rfl, rfl⟩) (by omega)).mono ?_
      rintro e w1 ⟨rfl, hb1⟩
      rw [Hc.out]
      have Hb1 := Lib.hid hb1
      have hz1 := hb1.size
      clear hb1
      go_wp2_with fail
      refine (isKind_any kind w1).mono ?_
      rintro e w2 ⟨rfl, hb2⟩
      rw [Hk.out]
      have Hb2 := Lib.hid (Hb1.out.trans (hb2.mono hz1))
      clear hb2
      go_wp2_with fail
      go_ret2
      exact .mk _ (by rw [HC.out] <;> rfl) (by rw [HR.out]; exact OwI.nil_) Hb2.out
  · have hC := cnC_code (kind := kind) hc
    have hR := cnR_bad (ms := ms) (kind := kind) (by rw [hC]; exact hc)
    have hne : (codeL ms [] != 0) = true := by simpa using hc
    have HR := Lib.hid hR
    have HC := Lib.hid hC
    clear hR hC hc
    go_enter Tryz.func39, Tryz.ntmps39
    go_wp2_with fail
    refine (listCode_any A none n c 0 0 ms [] w Hx.out Rd.nil_ Hn.out rfl HA.out (fun _ => ⟨rfl, rfl⟩) (by omega)).mono ?_
    rintro e w1 ⟨rfl, hb1⟩
    have Hb1 := Lib.hid hb1
    clear hb1
    go_wp2_with fail
    go_ret2
    exact .mk _ (by rw [HC.out] <;> rfl) (by rw [HR.out]; exact OwI.nil_) Hb1.out
end Go.Proofs.YtkbfocoaobiijaaGreat

namespace Go.Proofs.YtkbfocoaobiijaaGreat
open Go.RowKit
set_option maxRecDepth 100000
set_option linter.unusedSimpArgs false
set_option linter.unusedVariables false
def ccL (E : List M) (q : Nat) : List Int := (List.range q).map fun (k : Nat) => cntK E k
theorem ccL_len (E : List M) (q : Nat) : (ccL E q).length = q := by simp [ccL]
theorem ccL_step (E : List M) (q : Nat) : ccL E (q + 1) = ccL E q ++ [cntK E q] := by simp [ccL, List.range_succ]
def ccR (ms : List M) : List Int := if monC ms [] = 0 then ccL (elR ms []) 4 else []
theorem ccR_len (ms : List M) : (ccR ms).length ≤ 4 := by unfold ccR; split <;> simp [ccL]
theorem cls_bd (E : List M) (kind : Int) {N : Nat} (hn : E.length = N) (hN : N ≤ 300) : ∀ j, j < N → 0 ≤ gi (clsK E kind) j ∧ gi (clsK E kind) j ≤ 300 := by
  subst hn
  intro j hj
  have h1 := clsK_val E kind hj
  have h2 := cntK_bd E kind
  omega
theorem cls_mx (E : List M) (kind : Int) {N : Nat} (hn : E.length = N) : mxT (clsK E kind) N + 1 = cntK E kind := by
  subst hn
  exact mxT_nm _ _
set_option maxHeartbeats 1000000 in
theorem SpecCC_any (A : Option Addr) (n c : Nat) (ms : List M) (w : World) (hx : RdM w w.heap.size A ms) (hn : ms.length = n) (hb : n < 1073741824) :
    Calls Tryz.prog 38 #[.slice A n c] w (RetSI (ccR ms) (monC ms []) w) := by
  have Hx := Lib.hid hx
  have Hn := Lib.hid hn
  clear hx hn
  by_cases hm : monC ms [] = 0
  · obtain ⟨E, ps, hE, _⟩ := monC_el hm
    have hR : ccR ms = ccL E 4 := by unfold ccR; rw [if_pos hm, hE.r]
    have hG : gR ms [] = E := by unfold gR; rw [if_pos hm, hE.r]
    have hlen := hE.len
    have hn6 := hE.n6
    obtain ⟨N, hN⟩ : ∃ N, E.length = N := ⟨_, rfl⟩
    rw [hN] at hlen
    have HR := Lib.hid hR
    have HG := Lib.hid hG
    have HN := Lib.hid hN
    have HE := Lib.hid hE
    have Hm := Lib.hid hm
    have hn6' : n ≤ 6 := by rw [← Hn.out]; exact hn6
    clear hE hR hG hN hm hn6
    go_enter Tryz.func38, Tryz.ntmps38
    go_wp2_with fail
    refine (l03Given_any A none n c 0 0 ms [] w Hx.out Rd.nil_ Hn.out rfl hb (by decide)).mono ?_
    rintro e w2 ⟨A', c', v, rfl, hr, hv, hb2⟩
    rw [HG.out] at hr ⊢
    rw [Hm.out, HN.out]
    obtain ⟨Av, cv, hvv, _⟩ := hv.form
    subst hvv
    have Hr := Lib.hid hr
    have Hb2 := Lib.hid hb2
    have hz2 := hb2.size
    clear hr hv hb2
    go_wp2_with fail
    go_loopw [7, 8] (fun v k wr => ∃ q : Nat, k = .int .i64 q ∧ q ≤ 4 ∧ Below w2.heap.size w2 wr ∧ OwI 2 wr w2.heap.size v (ccL E q)) (fun _ k _ => 4 - (intOf k).toNat)
    case atStart => exact ⟨0, rfl, by omega, (Below.refl _ _).alloc (Nat.le_refl _) _, OwI.made (Nat.le_refl _)⟩
    case round =>
      obtain ⟨q, rfl, hq, hb', ho⟩ := hrel
      have hql := ccL_len E q
      obtain ⟨A1, c1, hv, _⟩ := ho.form
      rw [hql] at hv
      subst hv
      have Hb := Lib.hid (Hb2.out.trans (hb'.mono hz2))
      have Hbr := Lib.hid hb'
      have Ho := Lib.hid ho
      have hsz := Hb.out.size
      have hszr := hb'.size
      clear hb' ho
      by_cases hq4 : q < 4
      · have hqz : (q : Int) < 4 := by omega
        have Hk : Hid (inR (q : Int) 0 3 = true) := by show _ = _; unfold inR; rw [decide_eq_true (by omega), decide_eq_true (by omega)]; rfl
        have Hst := Lib.hid (ccL_step E q)
        go_wp2_with fail
        refine (l03Kind_any A' N c' E A n c ms q Hk.out wr (Rd.more (Rd.below Hr.out Hbr.out) hszr) HN.out (Rd.more (Rd.below Hx.out Hb.out) hsz) Hn.out hlen hn6' HE.out.mnd HE.out.mem HE.out.G).mono ?_
        rintro e w3 ⟨v, rfl, ho3, hb3⟩
        obtain ⟨A3, c3, hv3, hr3⟩ := ho3.form
        rw [clsK_length, HN.out] at hv3
        subst hv3
        have H3 := Lib.hid hr3
        have Hb3 := Lib.hid (Hbr.out.trans (hb3.mono hszr))
        have Ho3 := Lib.hid (Ho.out.below hb3 (Nat.le_refl _))
        have hz3 := hb3.size
        clear ho3 hr3 hb3 Hb Hbr Ho
        go_wp2_with fail
        refine (l03Number_any A3 N c3 (clsK E q) w3 H3.out (by rw [clsK_length, HN.out]) hlen (cls_bd E q HN.out hlen)).mono ?_
        rintro e w4 ⟨rfl, hb4⟩
        rw [cls_mx E q HN.out]
        have Hb4 := Lib.hid (Hb3.out.trans (hb4.mono (by omega)))
        have Ho4 := Lib.hid (Ho3.out.below hb4 (Nat.le_refl _))
        have hz4 := hb4.size
        obtain ⟨z, hz⟩ : ∃ z, z = cntK E q := ⟨_, rfl⟩
        rw [← hz] at Hst ⊢
        clear hb4 Hb3 Ho3 hz
        go_wp2_with (at_builtin; refine wpList_pushI rfl (.tmp 23) (.tmp 29) rfl w2.heap.size (.slice A1 q c1) (ccL E q) rfl (Ho4.out.alloc _) w4.heap.size 1 z rfl ((Blk.new _ _ _).cell 0) (by rw [hql]; omega) (by simp; omega) (w4.heap.size + 1) (by simp) ?_; intro g' cap w5 ho' hgr hg' hlt'; have Hb5 := Lib.hid ((Ho4.out.alloc (.cells #[I z] 2)).bel (Hb4.out.alloc (by omega) _) hgr (Nat.le_refl _) (by simp; omega)); have Ho5 := Lib.hid ho'; rw [hql] at Ho5; clear ho' hgr hg' hlt')
        go_roundw
        case rel => exact ⟨q + 1, by go_num, by omega, Hb5.out, by rw [Hst.out]; exact Ho5.out⟩
        case measure => simp [intOf]; omega
      · obtain rfl : q = 4 := by omega
        have hqz : ¬ ((4 : Int) < 4) := by omega
        have Hro := Lib.hid Ho.out.rdA
        go_wp2_with fail
        go_ret2
        exact .mk A1 c1 (by rw [HR.out, ccL_len, Hm.out] <;> rfl) (by rw [HR.out]; exact Hro.out) Hb.out
  · have hR : ccR ms = [] := if_neg hm
    have hne : (monC ms [] != 0) = true := by simpa using hm
    have HR := Lib.hid hR
    clear hR hm
    go_enter Tryz.func38, Tryz.ntmps38
    go_wp2_with fail
    refine (l03Given_any A none n c 0 0 ms [] w Hx.out Rd.nil_ Hn.out rfl hb (by decide)).mono ?_
    rintro e w2 ⟨A', c', v, rfl, hr, hv, hb2⟩
    obtain ⟨Av, cv, hvv, _⟩ := hv.form
    subst hvv
    have Hb2 := Lib.hid hb2
    clear hr hv hb2
    go_wp2_with fail
    go_ret2
    exact .mk none 0 (by rw [HR.out] <;> rfl) (by rw [HR.out]; exact Rd.nil_) Hb2.out
set_option maxHeartbeats 1000000 in
theorem ImplCC_any (A : Option Addr) (n c : Nat) (ms : List M) (w : World) (hx : RdM w w.heap.size A ms) (hn : ms.length = n) (hA : A = none → n = 0 ∧ c = 0) (hb : n < 536870912) :
    Calls Tryz.prog 37 #[.slice A n c] w (RetI (ccR ms) (monC ms []) w) := by
  have Hx := Lib.hid hx
  have Hn := Lib.hid hn
  have HA := Lib.hid hA
  clear hx hn hA
  by_cases hm : monC ms [] = 0
  · obtain ⟨E, ps, hE, _⟩ := monC_el hm
    have hR : ccR ms = ccL E 4 := by unfold ccR; rw [if_pos hm, hE.r]
    have hlen := hE.len
    have hpos := hE.pos
    obtain ⟨N, hN⟩ : ∃ N, E.length = N := ⟨_, rfl⟩
    rw [hN] at hlen hpos
    have HR := Lib.hid hR
    have HN := Lib.hid hN
    have HE := Lib.hid hE
    have Hm := Lib.hid hm
    clear hE hR hm hN
    go_enter Tryz.func37, Tryz.ntmps37
    go_wp2_with fail
    refine (monoidOf_any A none n c 0 0 ms [] w Hx.out Rd.nil_ Hn.out rfl HA.out (fun _ => ⟨rfl, rfl⟩) (by omega)).mono ?_
    rintro e w3 ⟨r, v, rfl, hb3, hr0, hs⟩
    obtain ⟨g0, rfl, hM, hv⟩ := hs ps HE.out.clo Hm.out
    rw [← HE.out.eq] at hM
    rw [Hm.out]
    obtain ⟨Av, cv, hvv, hrv⟩ := hv.form
    subst hvv
    have HM := Lib.hid hM
    have Hb3 := Lib.hid hb3
    have hz3 := hb3.size
    clear hM hs hr0 hv hrv hb3
    go_wp2_with fail
    refine (ideals_any w3 HM.out HE.out.len HE.out.mnd).mono ?_
    rintro e w4 ⟨d, rfl, hI, hb4⟩
    have HI := Lib.hid hI
    have Hb4 := Lib.hid (Hb3.out.trans (hb4.mono hz3))
    have hz4 := Hb4.out.size
    clear hI hb4
    go_wp2_with fail
    go_loopw [8, 9] (fun v k wr => ∃ q : Nat, k = .int .i64 q ∧ q ≤ 4 ∧ Below w4.heap.size w4 wr ∧ OwI 2 wr w4.heap.size v (ccL E q)) (fun _ k _ => 4 - (intOf k).toNat)
    case atStart => exact ⟨0, rfl, by omega, Below.refl _ _, OwI.nil_⟩
    case round =>
      obtain ⟨q, rfl, hq, hb', ho⟩ := hrel
      have hql := ccL_len E q
      obtain ⟨A1, c1, hv, _⟩ := ho.form
      rw [hql] at hv
      subst hv
      have Hb := Lib.hid hb'
      have Ho := Lib.hid ho
      have hsz := hb'.size
      clear hb' ho
      by_cases hq4 : q < 4
      · have hqz : (q : Int) ≤ 3 := by omega
        have Hst := Lib.hid (ccL_step E q)
        go_wp2_with fail
        refine (classes_any wr (HI.out.below Hb.out (Nat.le_refl _)) HE.out.len HE.out.mnd).mono ?_
        rintro e w5 ⟨v, rfl, ho3, hb5⟩
        obtain ⟨A3, c3, hv3, hr3⟩ := ho3.form
        rw [clsK_length, HN.out] at hv3
        subst hv3
        have H3 := Lib.hid hr3
        have Hb5 := Lib.hid (Hb.out.trans (hb5.mono hsz))
        have Ho5 := Lib.hid (Ho.out.below hb5 (Nat.le_refl _))
        have hz5 := hb5.size
        clear ho3 hr3 hb5 Hb Ho
        go_wp2_with fail
        refine (many_any A3 N c3 (clsK E q) w5 H3.out (by rw [clsK_length, HN.out]) hpos hlen (cls_bd E q HN.out hlen)).mono ?_
        rintro e w6 ⟨rfl, hb6⟩
        rw [cls_mx E q HN.out]
        have Hb6 := Lib.hid (Hb5.out.trans (hb6.mono (by omega)))
        have Ho6 := Lib.hid (Ho5.out.below hb6 (Nat.le_refl _))
        have hz6 := hb6.size
        obtain ⟨z, hz⟩ : ∃ z, z = cntK E q := ⟨_, rfl⟩
        rw [← hz] at Hst ⊢
        clear hb6 Hb5 Ho5 hz
        go_wp2_with (at_builtin; refine wpList_pushI rfl (.tmp 25) (.tmp 30) rfl w4.heap.size (.slice A1 q c1) (ccL E q) rfl (Ho6.out.alloc _) w6.heap.size 1 z rfl ((Blk.new _ _ _).cell 0) (by rw [hql]; omega) (by simp; omega) (w6.heap.size + 1) (by simp) ?_; intro g' cap w7 ho' hgr hg' hlt'; have Hb7 := Lib.hid ((Ho6.out.alloc (.cells #[I z] 2)).bel (Hb6.out.alloc (by omega) _) hgr (Nat.le_refl _) (by simp; omega)); have Ho7 := Lib.hid ho'; rw [hql] at Ho7; clear ho' hgr hg' hlt')
        go_roundw
        case rel => exact ⟨q + 1, by go_num, by omega, Hb7.out, by rw [Hst.out]; exact Ho7.out⟩
        case measure => simp [intOf]; omega
      · obtain rfl : q = 4 := by omega
        have hqz : ¬ ((4 : Int) ≤ 3) := by omega
        have Hbe := Lib.hid (Hb4.out.trans (Hb.out.mono hz4))
        have Hoe := Lib.hid (Ho.out.mono hz4)
        go_wp2_with fail
        go_ret2
        exact .mk _ (by rw [Hm.out] <;> rfl) (by rw [HR.out]; exact Hoe.out) Hbe.out
  · have hR : ccR ms = [] := if_neg hm
    have hne : (monC ms [] != 0) = true := by simpa using hm
    have HR := Lib.hid hR
    have Hm := Lib.hid hm
    clear hR hm
    go_enter Tryz.func37, Tryz.ntmps37
    go_wp2_with fail
    refine (monoidOf_any A none n c 0 0 ms [] w Hx.out Rd.nil_ Hn.out rfl HA.out (fun _ => ⟨rfl, rfl⟩) (by omega)).mono ?_
    rintro e w3 ⟨r, v, rfl, hb3, hr0, hs⟩
    obtain ⟨rfl, rfl⟩ := hr0 Hm.out
    have Hb3 := Lib.hid hb3
    clear hs hr0 hb3
    go_wp2_with fail
    go_ret2
    exact .mk _ rfl (by rw [HR.out]; exact OwI.nil_) Hb3.out
end Go.Proofs.YtkbfocoaobiijaaGreat

namespace Go.Proofs.YtkbfocoaobiijaaGreat
open Go.RowKit
set_option maxRecDepth 100000
def ups (n : Nat) : List Int := (List.range n).map fun k : Nat => (k : Int)
theorem ups_length (n : Nat) : (ups n).length = n := by simp [ups]
theorem ups_succ (n : Nat) : ups (n + 1) = ups n ++ [(n : Int)] := by simp [ups, List.range_succ]
theorem gi_ups {n k : Nat} (h : k < n) : gi (ups n) k = k := by simp [gi, ups, List.getD, h]
theorem points_any (n : Nat) (w : World) (hn : n < 1073741824) :
    Calls Tryz.prog 133 #[.int .i64 n] w fun e w' => ∃ v, e = .returned v ∧ OwI 2 w' w.heap.size v (ups n) ∧ Below w.heap.size w w' := by
  go_enter Tryz.func133, Tryz.ntmps133
  go_wp2
  go_loopw [3, 6] (fun v i wr => ∃ k : Nat, k ≤ n ∧ i = .int .i64 k ∧ OwI 2 wr w.heap.size v (ups k) ∧ Below w.heap.size w wr) (fun _ i _ => n - (intOf i).toNat)
  case atStart => exact ⟨0, by omega, rfl, OwI.nil_, by (repeat (first | with_reducible assumption | with_reducible exact Below.refl _ _ | with_reducible refine Below.setCell ?_ (by first | omega | (simp <;> omega)) _ | with_reducible refine Below.alloc ?_ (by first | omega | (simp <;> omega)) _ | with_reducible refine Below.drew ?_ | with_reducible refine Below.drewN ?_ _))⟩
  case round =>
    obtain ⟨k, hk, rfl, ho, hbel⟩ := hrel
    obtain ⟨A, c, hv, _⟩ := ho.form
    rw [ups_length] at hv
    subst hv
    have hsz := hbel.size
    by_cases hlt : k < n
    · go_wp2_with (at_builtin; refine wpList_pushI rfl (.tmp 9) (.tmp 11) rfl w.heap.size (.slice A k c) (ups k) rfl (ho.alloc _) wr.heap.size 1 k rfl ((Blk.new _ _ _).cell 0) (by rw [ups_length]; omega) (by simp; omega) (wr.heap.size + 1) (by simp) ?_; intro g' cap w4 ho' hgr hg' hlt')
      go_roundw
      case rel => exact ⟨k + 1, by omega, by go_num, by rw [ups_succ]; simpa [ups_length] using ho', (ho.alloc _).bel (hbel.alloc hsz _) hgr (by omega) (by simp; omega)⟩
      case measure => simp [intOf]; omega
    · obtain rfl : k = n := by omega
      go_wp2
      go_ret
      exact ⟨_, rfl, ho, hbel⟩
theorem OwI.spotD {e : TypeId} {w : World} {B g n c : Nat} {zs : List Int} (h : OwI e w B (.slice (some ⟨g, 0, none⟩) n c) zs) {k : Nat} (hk : k < zs.length) :
    w.cell? ⟨g, k, none⟩ = some (I (gi zs k)) ∧ w.frozen? ⟨g, k, none⟩ = false ∧ g < w.heap.size ∧ B ≤ g ∧ ∀ z, OwI e (w.setCell ⟨g, k, none⟩ (I z)) B (.slice (some ⟨g, 0, none⟩) n c) (zs.set k z) := by
  obtain ⟨g', c', hv, h1, h2, h3, h4, h5⟩ := h.spot hk
  injection hv with hv e2 e3
  injection hv with hv
  injection hv with hv _ _
  subst hv
  exact ⟨h3, h4, h2, h1, h5⟩
theorem OwI.setCells {e : TypeId} {B g n c : Nat} : ∀ (L : List Int) (o : Nat) (w : World) (rs : List Int), OwI e w B (.slice (some ⟨g, 0, none⟩) n c) rs → o + L.length ≤ rs.length →
    ∃ rs', rs'.length = rs.length ∧ rs'.take o = rs.take o ∧ OwI e (w.setCells g o (L.map I)) B (.slice (some ⟨g, 0, none⟩) n c) rs'
  | [], o, w, rs, h, _ => ⟨rs, rfl, rfl, h⟩
  | z :: L, o, w, rs, h, hl => by
    simp only [List.length_cons] at hl
    have h1 := (h.spotD (k := o) (by omega)).2.2.2.2 z
    obtain ⟨rs', e1, e2, e3⟩ := OwI.setCells L (o + 1) _ _ h1 (by simp; omega)
    refine ⟨rs', by simpa using e1, ?_, e3⟩
    have := congrArg (List.take o) e2
    rw [List.take_take, List.take_take, Nat.min_eq_left (by omega), List.take_set_of_le (by omega)] at this
    exact this
theorem OwI.cut {e : TypeId} {w : World} {B g n c : Nat} {zs : List Int} (h : OwI e w B (.slice (some ⟨g, 0, none⟩) n c) zs) {i : Nat} (hi : i ≤ zs.length) : OwI e w B (.slice (some ⟨g, 0, none⟩) i c) (zs.take i) := by
  have hlen : (zs.take i).length = i := by simp; omega
  rcases h.2 with ⟨hv, _⟩ | ⟨g', cap, cur, hv, h1, h2, h3, h4, h5, h6⟩
  · cases hv
  · injection hv with hv e2 e3
    injection hv with hv
    injection hv with hv _ _
    subst hv e3
    refine ⟨by simp [cI], .inr ⟨g, c, cur, by rw [hlen], h1, h2, by omega, h4, h5, ?_⟩⟩
    rw [hlen, Nat.mul_one]
    have := congrArg (List.take i) h6
    rw [List.take_take, Nat.mul_one, Nat.min_eq_left (by omega)] at this
    rw [this]
    simp [cI, List.map_take]
theorem OwI.cap {e : TypeId} {w : World} {B g n c : Nat} {zs : List Int} (h : OwI e w B (.slice (some ⟨g, 0, none⟩) n c) zs) : zs.length = n ∧ n ≤ c := by
  rcases h.2 with ⟨hv, _⟩ | ⟨g', cap, cur, hv, h1, h2, h3, h4, h5, h6⟩
  · cases hv
  · injection hv with hv e2 e3
    subst e2 e3
    exact ⟨rfl, h3⟩
theorem OwI.rd {e : TypeId} {w : World} {B g n c : Nat} {zs : List Int} (h : OwI e w B (.slice (some ⟨g, 0, none⟩) n c) zs) : RdI w w.heap.size (some ⟨g, 0, none⟩) zs := by
  obtain ⟨A, c', hv, hr⟩ := h.form
  injection hv with hA _ _
  rw [hA]
  exact hr
theorem zeroI : ∀ w, (zeroValue 2).run Tryz.prog w = .ok (I 0) w := fun w => by kernel_rfl
theorem clearI {w : World} {B g n c a : Nat} {rs : List Int} (h : OwI 2 w B (.slice (some ⟨g, 0, none⟩) n c) rs) (hn : rs.length = n) (ha : a < n) (ty : TypeId) (c' : Nat) :
    ∃ w', (Builtin.clear_ #[39] ty #[.slice (some ⟨g, a, none⟩) (n - a) c']).run Tryz.prog w = .ok (.tuple #[]) w' ∧ OwI 2 w' B (.slice (some ⟨g, 0, none⟩) a c) (rs.take a) ∧ Below B w w' := by
  have hB := (h.spotD (k := a) (by omega)).2.2.2.1
  refine ⟨w.setCells g a (List.replicate (n - a) (I 0)), Lib.run_clear_slice w 39 2 ty (I 0) Tryz.underlying39 zeroI rfl rfl g a (n - a) c' (by omega) ?_ ?_, ?_, ?_⟩
  · intro j hj; rw [(h.spotD (k := a + j) (by omega)).1]; rfl
  · intro j hj; exact (h.spotD (k := a + j) (by omega)).2.1
  · obtain ⟨rs', e1, e2, e3⟩ := h.setCells (List.replicate (n - a) 0) a w rs (by simp; omega)
    rw [List.map_replicate] at e3
    rw [← e2]
    exact e3.cut (by omega)
  · have key : ∀ (L : List Value) (o : Nat) (w' : World), Below B w w' → Below B w (w'.setCells g o L) := by
      intro L
      induction L with
      | nil => intro o w' h; exact h
      | cons v L ih => intro o w' h; exact ih (o + 1) _ (h.setCell hB _)
    exact key _ _ _ (Below.refl _ _)
end Go.Proofs.YtkbfocoaobiijaaGreat

namespace Go.Proofs.YtkbfocoaobiijaaGreat
open Go.RowKit
set_option maxRecDepth 100000
def sel (q : Int → Bool) (n : Nat) : List Int := (ups n).filter q
theorem sel_succ (q : Int → Bool) (n : Nat) : sel q (n + 1) = sel q n ++ (if q n then [(n : Int)] else []) := by
  rw [sel, ups_succ, List.filter_append, sel]
  congr 1
  cases h : q n <;> simp [h]
theorem ups_mem {n : Nat} {z : Int} (h : z ∈ ups n) : ∃ k : Nat, k < n ∧ z = k := by
  simp [ups] at h
  obtain ⟨k, hk, rfl⟩ := h
  exact ⟨k, hk, rfl⟩
theorem six_at {w : World} {g : Nat} {f : M} (hs : Six w g f) : ∀ j, j < 5 → w.cell? ⟨g, 1 + j, none⟩ = some (I (f.at j)) :=
  five (P := fun j => w.cell? ⟨g, 1 + j, none⟩ = some (I (f.at j))) hs.2.1 hs.2.2.1 hs.2.2.2.1 hs.2.2.2.2.1 hs.2.2.2.2.2
end Go.Proofs.YtkbfocoaobiijaaGreat

namespace Go.Proofs.YtkbfocoaobiijaaGreat
open Go.RowKit
set_option maxRecDepth 100000
theorem Blk.far6 {w : World} {g q : Nat} {t : TypeId} {cs : Array Value} (h : Blk w g t cs) (hq : g ≠ q) (m : M) : Blk (Go.Proofs.YtkbfocoaobiijaaGreat.st6 w q m) g t cs :=
  (((((h.far (p := ⟨q, 0, none⟩) hq _).far (p := ⟨q, 1, none⟩) hq _).far (p := ⟨q, 2, none⟩) hq _).far (p := ⟨q, 3, none⟩) hq _).far (p := ⟨q, 4, none⟩) hq _).far (p := ⟨q, 5, none⟩) hq _
def ipR (f : M) : M := if isMap f then pw f 60 else M0
theorem ipR_bad {f : M} (h : isMap f = false) : ipR f = M0 ∧ cInv (isMap f) = 1 := by rw [h]; simp [ipR, h, cInv]
theorem ipR_good {f : M} (h : isMap f = true) : ipR f = pw f 60 ∧ cInv (isMap f) = 0 := by rw [h]; simp [ipR, h, cInv]
theorem ImplIdemPower_any (f : M) (w : World) :
    Calls Tryz.prog 57 #[.agg (mc f)] w fun e w' => e = .returned (.tuple #[.agg (mc (ipR f)), I (cInv (isMap f))]) ∧ Below w.heap.size w w' := by
  cases h : isMap f
  · have Hr := Lib.hid (ipR_bad h)
    rw [← h]
    have Hh := Lib.hid h
    go_enter Tryz.func57, Tryz.ntmps57
    go_wp2_with fail
    refine (isMap_any _ _).mono ?_
    rintro e w1 ⟨rfl, hb⟩
    have hB1 : Blk w1 (w.heap.size + 1) 31 (mc M0) := Blk.below (Blk.new' _ _ _ (by simp)) hb (by simp <;> omega)
    have hbel : Below w.heap.size w w1 := Below.trans (by (repeat (first | with_reducible assumption | with_reducible exact Below.refl _ _ | with_reducible refine Below.setCell ?_ (by first | omega | (simp <;> omega)) _ | with_reducible refine Below.alloc ?_ (by first | omega | (simp <;> omega)) _ | with_reducible refine Below.drew ?_ | with_reducible refine Below.drewN ?_ _))) (hb.mono (by simp <;> omega))
    clear hb
    obtain ⟨d0, d1, d2, d3, d4, d5⟩ := hB1.six
    obtain ⟨z0, z1, z2, z3, z4, z5⟩ := hB1.fr6
    go_wp2
    refine bodyPost_ret (v := .tuple #[.agg (mc M0), I 1]) ?_ rfl ⟨by rw [Hr.out.1, Hr.out.2], by (repeat (first | with_reducible assumption | with_reducible exact Below.refl _ _ | with_reducible refine Below.setCell ?_ (by first | omega | (simp <;> omega)) _ | with_reducible refine Below.alloc ?_ (by first | omega | (simp <;> omega)) _ | with_reducible refine Below.drew ?_ | with_reducible refine Below.drewN ?_ _))⟩
    simp [results, Tryz.results57, go_sem, *]
    try exact ⟨rfl, rfl, rfl, rfl, rfl, rfl⟩
  · have Hr := Lib.hid (ipR_good h)
    have hv := (isMap_iff f).1 h
    rw [← h]
    have Hh := Lib.hid h
    go_enter Tryz.func57, Tryz.ntmps57
    go_wp2_with fail
    refine (isMap_any _ _).mono ?_
    rintro e w1 ⟨rfl, hb⟩
    have hB0 : Blk w1 w.heap.size 31 (mc f) := Blk.below ((Blk.new w _ _).alloc _) hb (by simp <;> omega)
    have hB1 : Blk w1 (w.heap.size + 1) 31 (mc M0) := Blk.below (Blk.new' _ _ _ (by simp)) hb (by simp <;> omega)
    have hbel : Below w.heap.size w w1 := Below.trans (by (repeat (first | with_reducible assumption | with_reducible exact Below.refl _ _ | with_reducible refine Below.setCell ?_ (by first | omega | (simp <;> omega)) _ | with_reducible refine Below.alloc ?_ (by first | omega | (simp <;> omega)) _ | with_reducible refine Below.drew ?_ | with_reducible refine Below.drewN ?_ _))) (hb.mono (by simp <;> omega))
    have hlt := hB1.lt
    clear hb
    obtain ⟨d0, d1, d2, d3, d4, d5⟩ := hB0.six
    rw [h]
    go_wp2_with fail
    clear d0 d1 d2 d3 d4 d5
    go_loopg [] 59 (fun gk wr => ∃ m : Nat, m + gk = 60 ∧ 1 ≤ m ∧ Blk wr w.heap.size 31 (mc f) ∧ Blk wr (w.heap.size+1) 31 (mc M0) ∧ Blk wr w1.heap.size 31 (mc (pw f m)) ∧ Below w.heap.size w wr)
    case atStart => exact ⟨1, rfl, Nat.le_refl _, hB0.alloc _, hB1.alloc _, by rw [pw_one hv]; exact Blk.new _ _ _, hbel.alloc hbel.size _⟩
    case round =>
      clear hB0 hB1 hbel
      obtain ⟨m, hm, hm1, hB0, hB1, hB2, hbel⟩ := hrel
      have hvm := pw_valid hv m
      have l2 := hB2.lt
      obtain ⟨d0, d1, d2, d3, d4, d5⟩ := hB2.six
      cases hi : isIdem (pw f m)
      · have Hm : Hid (m < 60) := by
          rcases Nat.lt_or_ge m 60 with h | h
          · exact h
          · exfalso
            obtain rfl : m = 60 := by omega
            rw [isIdem, decide_eq_true (idem_60 hv)] at hi
            cases hi
        go_wp2_with fail
        refine (isIdem_any (pw f m) _ hvm).mono ?_
        rintro e w2 ⟨rfl, hb⟩
        rw [hi]
        replace hB0 := hB0.below hb hB0.lt
        replace hB1 := hB1.below hb hB1.lt
        replace hB2 := hB2.below hb hB2.lt
        replace hbel := hbel.trans (hb.mono hbel.size)
        have l3 := hB2.lt
        clear hb d0 d1 d2 d3 d4 d5 l2 hi
        obtain ⟨d0, d1, d2, d3, d4, d5⟩ := hB2.six
        obtain ⟨e0, e1, e2, e3, e4, e5⟩ := hB0.six
        go_wp2_with fail
        refine (times_any (pw f m) f _ hvm).mono ?_
        rintro e w3 ⟨rfl, hb⟩
        replace hB0 := hB0.below hb hB0.lt
        replace hB1 := hB1.below hb hB1.lt
        replace hB2 := hB2.below hb hB2.lt
        replace hbel := hbel.trans (hb.mono hbel.size)
        clear hb d0 d1 d2 d3 d4 d5 e0 e1 e2 e3 e4 e5 l3
        obtain ⟨d0, d1, d2, d3, d4, d5⟩ := hB2.six
        obtain ⟨z0, z1, z2, z3, z4, z5⟩ := hB2.fr6
        go_wp2
        go_roundg (gk - 1)
        case rel => exact ⟨m + 1, by have := Hm.out; omega, by omega, hB0.far6 (by omega) _, hB1.far6 (by omega) _, hB2.st6 _, by (repeat (first | with_reducible assumption | with_reducible exact Below.refl _ _ | with_reducible refine Below.setCell ?_ (by first | omega | (simp <;> omega)) _ | with_reducible refine Below.alloc ?_ (by first | omega | (simp <;> omega)) _ | with_reducible refine Below.drew ?_ | with_reducible refine Below.drewN ?_ _))⟩
        case measure => have := Hm.out; omega
      · have Hm : Hid (pw f m = pw f 60) := idem_uniq hv hm1 (of_decide_eq_true hi)
        go_wp2_with fail
        refine (isIdem_any (pw f m) _ hvm).mono ?_
        rintro e w2 ⟨rfl, hb⟩
        rw [hi]
        replace hB1 := hB1.below hb hB1.lt
        replace hB2 := hB2.below hb hB2.lt
        replace hbel := hbel.trans (hb.mono hbel.size)
        clear hb d0 d1 d2 d3 d4 d5 l2 hi hB0
        obtain ⟨d0, d1, d2, d3, d4, d5⟩ := hB2.six
        obtain ⟨e0, e1, e2, e3, e4, e5⟩ := hB1.six
        obtain ⟨z0, z1, z2, z3, z4, z5⟩ := hB1.fr6
        go_wp2
        refine bodyPost_ret (v := .tuple #[.agg (mc (pw f m)), I 0]) ?_ rfl ⟨by rw [Hr.out.1, Hr.out.2, Hm.out], by (repeat (first | with_reducible assumption | with_reducible exact Below.refl _ _ | with_reducible refine Below.setCell ?_ (by first | omega | (simp <;> omega)) _ | with_reducible refine Below.alloc ?_ (by first | omega | (simp <;> omega)) _ | with_reducible refine Below.drew ?_ | with_reducible refine Below.drewN ?_ _))⟩
        simp [results, Tryz.results57, go_sem, *]
end Go.Proofs.YtkbfocoaobiijaaGreat

namespace Go.Proofs.YtkbfocoaobiijaaGreat
open Go.RowKit
set_option maxRecDepth 100000
theorem or_fin : ∀ (m : Fin 32) (a : Fin 5), bits .or .i64 ((m.val : Nat) : Int) (wrap64 (2 ^ a.val)) = ((m.val ||| 2 ^ a.val : Nat) : Int) ∧ m.val ||| 2 ^ a.val < 32 := by decide +kernel
theorem or_run {m a : Nat} (hm : m < 32) (ha : a < 5) : bits .or .i64 (m : Int) (wrap64 (2 ^ a)) = ((m ||| 2 ^ a : Nat) : Int) ∧ m ||| 2 ^ a < 32 := or_fin ⟨m, hm⟩ ⟨a, ha⟩
theorem sel_ext {q q' : Int → Bool} : ∀ {n : Nat}, (∀ k : Nat, k < n → q k = q' k) → sel q n = sel q' n
  | 0, _ => rfl
  | n + 1, h => by rw [sel_succ, sel_succ, sel_ext fun k hk => h k (by omega), h n (by omega)]
def bq (m : Nat) (z : Int) : Bool := m.testBit z.toNat
theorem bq_nat (m k : Nat) : bq m k = m.testBit k := rfl
def pts (m : Nat) : List Int := sel (bq m) 62
def im (f : M) : Nat → Nat
  | 0 => 0
  | k + 1 => im f k ||| 2 ^ (f.at k).toNat
theorem im_lt {f : M} (hf : Valid f) : ∀ k : Nat, (k : Int) ≤ f.p → im f k < 32
  | 0, _ => by simp [im]
  | k + 1, h => by
    have h5 := hf.p5
    have b1 := hf.lo k (by omega) (by omega)
    have b2 := hf.hi k (by omega) (by omega)
    exact (or_run (im_lt hf k (by omega)) (a := (f.at k).toNat) (by omega)).2
theorem im_bit (f : M) (j : Nat) : ∀ k, (im f k).testBit j = true ↔ ∃ i, i < k ∧ (f.at i).toNat = j
  | 0 => by simp [im]
  | k + 1 => by
    rw [im, Nat.testBit_or, Bool.or_eq_true, im_bit f j k, Nat.testBit_two_pow, decide_eq_true_eq]
    constructor
    · rintro (⟨i, hi, e⟩ | e)
      · exact ⟨i, by omega, e⟩
      · exact ⟨k, by omega, e⟩
    · rintro ⟨i, hi, e⟩
      by_cases h : i = k
      · subst h; exact .inr e
      · exact .inl ⟨i, by omega, e⟩
theorem l01Image_any (f : M) (w : World) (hf : Valid f) :
    Calls Tryz.prog 210 #[.agg (mc f)] w fun e w' => e = .returned (I (im f f.p.toNat)) ∧ Below w.heap.size w w' := by
  have hp1 := hf.p1
  have hp5 := hf.p5
  go_enter Tryz.func210, Tryz.ntmps210
  go_wp2
  go_loopw [3, 4] (fun s i wr => ∃ k : Nat, (k : Int) ≤ f.p ∧ s = I (im f k) ∧ i = .int .i64 k ∧ Blk wr w.heap.size 31 (mc f) ∧ Below w.heap.size w wr) (fun _ i _ => 5 - (intOf i).toNat)
  case atStart => exact ⟨0, by omega, rfl, rfl, Blk.new _ _ _, by (repeat (first | with_reducible assumption | with_reducible exact Below.refl _ _ | with_reducible refine Below.setCell ?_ (by first | omega | (simp <;> omega)) _ | with_reducible refine Below.alloc ?_ (by first | omega | (simp <;> omega)) _ | with_reducible refine Below.drew ?_ | with_reducible refine Below.drewN ?_ _))⟩
  case round =>
    obtain ⟨k, hk, rfl, rfl, hB, hbel⟩ := hrel
    have c0 : wr.cell? ⟨w.heap.size, 0, none⟩ = some (I f.p) := hB.cell 0
    by_cases hlt : (k : Int) < f.p
    · have c1 := hB.at_ (k := k) (by omega)
      have b1 := hf.lo k (by omega) hlt
      have b2 := hf.hi k (by omega) hlt
      have ho := (or_run (im_lt hf k hk) (a := (f.at k).toNat) (by omega)).1
      have Hi : Hid (im f (k + 1) = im f k ||| 2 ^ (f.at k).toNat) := rfl
      go_wp2
      go_roundw
      case rel => exact ⟨k + 1, by omega, by rw [Hi.out], by go_num, hB, hbel⟩
      case measure => simp [intOf]; omega
    · obtain rfl : k = f.p.toNat := by omega
      go_wp2
      go_ret
      exact ⟨rfl, hbel⟩
/-! ### cyclic points -/
def back (f : M) (k : Nat) : Nat → Bool
  | 0 => false
  | n + 1 => back f k n || decide (go' f k (n + 1) = k)
end Go.Proofs.YtkbfocoaobiijaaGreat

namespace Go.Proofs
open Go.Shelf
def Tryz.lays125_ren : Go.Shelf.Ren := ⟨fun | 125 => 250 | 128 => 262 | 129 => 263 | n => n, fun | 46 => 113 | 3 => 3 | 51 => 179 | 53 => 142 | 4 => 4 | 5 => 5 | 9 => 9 | n => n, fun | n => n⟩
theorem Tryz.lays125 : Go.Proofs.Lays.n125 Tryz.prog Tryz.lays125_ren := {
  mixed := by kernel_rfl
  f125 := Tryz.func250.trans (congrArg some (by kernel_rfl))
  f128 := Tryz.func262.trans (congrArg some (by kernel_rfl))
  f129 := Tryz.func263.trans (congrArg some (by kernel_rfl))
  t3 := Tryz.underlying3
  a3 := Tryz.isAgg3
  z3 := Tryz.sizeOf3
  v3 := Tryz.zeroValue3
  t4 := Tryz.underlying4
  a4 := Tryz.isAgg4
  z4 := Tryz.sizeOf4
  v4 := Tryz.zeroValue4
  t5 := Tryz.underlying5
  a5 := Tryz.isAgg5
  z5 := Tryz.sizeOf5
  v5 := Tryz.zeroValue5
  t9 := Tryz.underlying9
  a9 := Tryz.isAgg9
  z9 := Tryz.sizeOf9
  v9 := Tryz.zeroValue9
  t46 := Tryz.underlying113
  a46 := Tryz.isAgg113
  z46 := Tryz.sizeOf113
  v46 := Tryz.zeroValue113
  t51 := Tryz.underlying179
  a51 := Tryz.isAgg179
  z51 := Tryz.sizeOf179
  v51 := Tryz.zeroValue179
  t53 := Tryz.underlying142
  a53 := Tryz.isAgg142
  z53 := Tryz.sizeOf142
  v53 := Tryz.zeroValue142 }
theorem Tryz.bits_Len (x : Int) (w : World) (h0 : 0 ≤ x) (h1 : x ≤ 18446744073709551615) :
    Calls Tryz.prog 250 #[.int .u64 x] w fun e w' => e = .returned (.int .i64 (Lib.bitLen x.toNat)) ∧ w' = w := Any.bits_Len Tryz.lays125 x w h0 h1
end Go.Proofs

namespace Go.Proofs.YtkbfocoaobiijaaGreat
open Go.RowKit
set_option maxRecDepth 100000
theorem isNaN_any (x : Int) (w : World) : Calls Tryz.prog 248 #[I x] w fun e w' => e = .returned (.bool false) ∧ w = w' := by
  have h : (x != x) = false := by simp
  go_enter Tryz.func248, Tryz.ntmps248
  go_wp2
  go_ret
  exact ⟨by simp, rfl⟩
theorem less_any (x y : Int) (w : World) : Calls Tryz.prog 270 #[I x, I y] w fun e w' => e = .returned (.bool (decide (x < y))) ∧ w = w' := by
  cases h : decide (x < y)
  · have h' : ¬ x < y := by simpa using h
    go_enter Tryz.func270, Tryz.ntmps270
    go_wp2_with (go_at_call 248; refine (isNaN_any _ _).mono ?_; rintro e w' ⟨rfl, rfl⟩)
    go_ret
    exact ⟨rfl, rfl⟩
  · have h' : x < y := by simpa using h
    go_enter Tryz.func270, Tryz.ntmps270
    go_wp2_with (go_at_call 248; refine (isNaN_any _ _).mono ?_; rintro e w' ⟨rfl, rfl⟩)
    go_ret
    exact ⟨rfl, rfl⟩
def idx (z : Int) : List Int → Int
  | [] => -1
  | x :: xs => if z = x then 0 else (if idx z xs = -1 then -1 else idx z xs + 1)
theorem idx_ge (z : Int) : ∀ xs, -1 ≤ idx z xs ∧ (idx z xs = -1 ↔ z ∉ xs)
  | [] => by simp [idx]
  | x :: xs => by
    have ih := idx_ge z xs
    unfold idx
    by_cases h : z = x
    · simp [h]
    · rw [if_neg h]
      by_cases h1 : idx z xs = -1
      · rw [if_pos h1]; simp [h, ih.2.1 h1]
      · rw [if_neg h1]
        have : z ∈ xs := by
          refine Classical.byContradiction fun hn => h1 (ih.2.2 hn)
        simp [this]; omega
theorem idx_found {z : Int} : ∀ {xs : List Int} {k : Nat}, k < xs.length → gi xs k = z → (∀ j, j < k → gi xs j ≠ z) → idx z xs = k
  | [], k, hk, _, _ => by simp at hk
  | x :: xs, 0, _, h, _ => by simp [gi] at h; simp [idx, h]
  | x :: xs, k + 1, hk, h, hn => by
    have h0 : z ≠ x := fun e => hn 0 (by omega) (by simp [gi, e])
    have ih := idx_found (z := z) (xs := xs) (k := k) (by simpa using hk) (by simpa [gi] using h) (fun j hj => by have := hn (j + 1) (by omega); simpa [gi] using this)
    unfold idx
    rw [if_neg h0, ih, if_neg (by omega)]
    simp
theorem idx_none {z : Int} {xs : List Int} (h : ∀ j, j < xs.length → gi xs j ≠ z) : idx z xs = -1 := by
  rw [(idx_ge z xs).2]
  intro hm
  obtain ⟨j, hj, e⟩ := List.getElem_of_mem hm
  exact h j hj (by rw [gi_eq hj]; exact e)
theorem index_any (A : Option Addr) (n c : Nat) (zs : List Int) (z : Int) (w : World) (hx : RdI w w.heap.size A zs) (hn : zs.length = n) (hb : n < 1073741824) :
    Calls Tryz.prog 241 #[.slice A n c, I z] w fun e w' => e = .returned (I (idx z zs)) ∧ w = w' := by
  have Hn := Lib.hid hn
  have Hx := Lib.hid hx
  clear hn hx
  go_enter Tryz.func241, Tryz.ntmps241
  go_wp2
  go_loop [8] (fun i => ∃ k : Nat, k ≤ n ∧ i = .int .i64 k ∧ Hid (∀ j, j < k → gi zs j ≠ z)) (fun i => n - (intOf i).toNat)
  case atStart => exact ⟨0, by omega, rfl, fun j hj => absurd hj (by omega)⟩
  case round =>
    obtain ⟨k, hk, rfl, hg⟩ := hrel
    by_cases hlt : k < n
    · obtain ⟨b, off, rfl, hbb, c1⟩ := Hx.out.at_ (k := k) (by rw [Hn.out]; exact hlt)
      by_cases he : z = gi zs k
      · have heb : (z == gi zs k) = true := by simp [he]
        have Hr : Hid (idx z zs = k) := idx_found (by rw [Hn.out]; exact hlt) he.symm hg.out
        clear he
        go_wp2
        go_ret
        exact ⟨ret_int Hr.out.symm, rfl⟩
      · have heb : (z == gi zs k) = false := by simp [he]
        have Hr : Hid (∀ j, j < k + 1 → gi zs j ≠ z) := by
          intro j hj
          by_cases e : j = k
          · subst e; exact fun h => he h.symm
          · exact hg.out j (by omega)
        clear he
        go_wp2
        go_round
        case rel => exact ⟨k + 1, by omega, by go_num, Hr.out⟩
        case measure => simp [intOf]; omega
    · have Hr : Hid (idx z zs = -1) := idx_none fun j hj => hg.out j (by have := Hn.out; omega)
      go_wp2
      go_ret
      exact ⟨ret_int Hr.out.symm, rfl⟩
theorem contains_any (A : Option Addr) (n c : Nat) (zs : List Int) (z : Int) (w : World) (hx : RdI w w.heap.size A zs) (hn : zs.length = n) (hb : n < 1073741824) :
    Calls Tryz.prog 191 #[.slice A n c, I z] w fun e w' => e = .returned (.bool (decide (z ∈ zs))) ∧ w = w' := by
  have h1 := (idx_ge z zs).1
  by_cases hm : z ∈ zs
  · have h2 : 0 ≤ idx z zs := by have := (idx_ge z zs).2; have : idx z zs ≠ -1 := fun e => (this.1 e) hm; omega
    have Hm : Hid (decide (z ∈ zs) = true) := decide_eq_true hm
    clear hm
    go_enter Tryz.func191, Tryz.ntmps191
    go_wp2_with (go_at_call 241; refine (index_any A n c zs z _ hx hn hb).mono ?_; rintro e w' ⟨rfl, rfl⟩)
    go_ret
    exact ⟨ret_bool Hm.out.symm, rfl⟩
  · have h2 : ¬ 0 ≤ idx z zs := by have := ((idx_ge z zs).2.2 hm); omega
    have Hm : Hid (decide (z ∈ zs) = false) := decide_eq_false hm
    clear hm
    go_enter Tryz.func191, Tryz.ntmps191
    go_wp2_with (go_at_call 241; refine (index_any A n c zs z _ hx hn hb).mono ?_; rintro e w' ⟨rfl, rfl⟩)
    go_ret
    exact ⟨ret_bool (by rw [Hm.out]; exact decide_eq_false (by omega)), rfl⟩
def SortedTo (cs : List Int) (i : Nat) : Prop := ∀ a b, a < b → b < i → gi cs a ≤ gi cs b
def Ins (cs : List Int) (i j : Nat) : Prop := (∀ a b, a < b → b ≤ i → a ≠ j → b ≠ j → gi cs a ≤ gi cs b) ∧ ∀ b, j < b → b ≤ i → gi cs j ≤ gi cs b
theorem Ins.start {cs : List Int} {i : Nat} (h : SortedTo cs i) : Ins cs i i := ⟨fun a b hab hb _ hbi => h a b hab (by omega), fun b h1 h2 => by omega⟩
theorem Ins.stop {cs : List Int} {i j : Nat} (h : Ins cs i j) (hs : j = 0 ∨ gi cs (j - 1) ≤ gi cs j) : SortedTo cs (i + 1) := by
  have main : ∀ a b, a < b → b ≤ i → gi cs a ≤ gi cs b := by
    intro a b hab hb
    by_cases h1 : a = j
    · subst h1; exact h.2 b hab hb
    · by_cases h2 : b = j
      · subst h2
        rcases hs with h0 | h0
        · omega
        · by_cases h3 : a = b - 1
          · subst h3; exact h0
          · exact Int.le_trans (h.1 a (b - 1) (by omega) (by omega) h1 (by omega)) h0
      · exact h.1 a b hab hb h1 h2
  exact fun a b hab hb => main a b hab (by omega)
def swapped (cs : List Int) (j : Nat) : List Int := (cs.set j (gi cs (j - 1))).set (j - 1) (gi cs j)
theorem gi_set {cs : List Int} {k j : Nat} {v : Int} (hk : k < cs.length) : gi (cs.set k v) j = if j = k then v else gi cs j := by
  unfold gi
  by_cases h : j = k
  · subst h; simp [List.getD, hk]
  · rw [if_neg h]; simp [List.getD, List.getElem?_set_ne (Ne.symm h)]
theorem gi_swapped {cs : List Int} {j : Nat} (hj : j < cs.length) (h0 : 0 < j) (k : Nat) : gi (swapped cs j) k = if k = j - 1 then gi cs j else if k = j then gi cs (j - 1) else gi cs k := by
  unfold swapped
  rw [gi_set (by simp; omega), gi_set hj]
theorem Ins.step {cs : List Int} {i j : Nat} (h : Ins cs i j) (hj : j < cs.length) (h0 : 0 < j) (hji : j ≤ i) (hlt : gi cs j < gi cs (j - 1)) : Ins (swapped cs j) i (j - 1) := by
  constructor
  · intro a b hab hb ha1 hb1
    rw [gi_swapped hj h0, gi_swapped hj h0, if_neg ha1, if_neg hb1]
    by_cases h1 : a = j
    · subst h1
      rw [if_pos rfl, if_neg (by omega)]
      exact h.1 (a - 1) b (by omega) hb (by omega) (by omega)
    · rw [if_neg h1]
      by_cases h2 : b = j
      · subst h2
        rw [if_pos rfl]
        exact h.1 a (b - 1) (by omega) (by omega) h1 (by omega)
      · rw [if_neg h2]; exact h.1 a b hab hb h1 h2
  · intro b hb1 hb2
    rw [gi_swapped hj h0, gi_swapped hj h0, if_pos rfl, if_neg (by omega)]
    by_cases h2 : b = j
    · rw [if_pos h2]; omega
    · rw [if_neg h2]; exact h.2 b (by omega) hb2
theorem perm_swapped {cs : List Int} {j : Nat} (hj : j < cs.length) (h0 : 0 < j) : (swapped cs j).Perm cs := by
  rw [List.perm_iff_count]
  intro x
  have e1 : gi cs j = cs[j] := gi_eq hj
  have e2 : gi cs (j - 1) = cs[j - 1] := gi_eq (by omega)
  unfold swapped
  rw [List.count_set (by simp; omega), List.count_set hj]
  rw [List.getElem_set_ne (by omega)]
  have hp1 : 0 < cs.count cs[j] := List.count_pos_iff.2 (List.getElem_mem _)
  have hp2 : 0 < cs.count cs[j - 1] := List.count_pos_iff.2 (List.getElem_mem _)
  rw [e1, e2]
  generalize cs[j] = u at *
  generalize cs[j - 1] = v at *
  by_cases c1 : u = x
  · subst c1
    by_cases c2 : v = u
    · subst c2; simp; omega
    · simp [c2]; omega
  · by_cases c2 : v = x
    · subst c2; simp [c1]
    · simp [c1, c2]
theorem drewN_grown {w w' : World} {row : Option Nat} (h : w.grownBy w' row) (n : Nat) : w.grownBy (w'.drewN n) row := ⟨h.os, h.tape, h.output, h.size, h.block⟩
theorem insertion_any (v : Value) (B : Nat) (zs : List Int) (n : Nat) (w : World) (hown : OwI 2 w B v zs) (hn : zs.length = n) (hb : n < 1073741824) :
    Calls Tryz.prog 264 #[v, .int .i64 0, .int .i64 n] w fun e w' => e = .returned (.tuple #[]) ∧ ∃ cs, cs.Perm zs ∧ SortedTo cs n ∧ OwI 2 w' B v cs ∧ w.grownBy w' v.ownBlock := by
  obtain ⟨A, c, rfl, _⟩ := hown.form
  have Hn := Lib.hid hn
  clear hn
  go_enter Tryz.func264, Tryz.ntmps264
  go_wp2
  go_loopw [6] (fun i wr => ∃ k : Nat, 1 ≤ k ∧ (k ≤ n ∨ k = 1) ∧ i = .int .i64 k ∧ ∃ cs : List Int, Hid (cs.Perm zs ∧ SortedTo cs k) ∧ OwI 2 wr B (.slice A zs.length c) cs ∧ w.grownBy wr (Value.slice A zs.length c).ownBlock) (fun i _ => n - (intOf i).toNat)
  case atStart => exact ⟨1, by omega, by omega, rfl, zs, ⟨List.Perm.refl _, fun a b h1 h2 => by omega⟩, hown, World.grownBy.refl w _⟩
  case round =>
    obtain ⟨k, hk1, hk2, rfl, cs, hcs, ho, hg⟩ := hrel
    by_cases hlt : k < n
    · go_wp2_with fail
      have hk3 : k < n := hlt
      clear hlt
      go_loopw [7] (fun jv wq => ∃ j : Nat, j ≤ k ∧ jv = .int .i64 j ∧ ∃ ds : List Int, Hid (ds.Perm zs ∧ Ins ds k j) ∧ OwI 2 wq B (.slice A zs.length c) ds ∧ w.grownBy wq (Value.slice A zs.length c).ownBlock) (fun jv _ => (intOf jv).toNat)
      case atStart => exact ⟨k, by omega, rfl, cs, ⟨hcs.out.1, Ins.start hcs.out.2⟩, ho, hg⟩
      case round =>
        clear ho hg
        obtain ⟨j, hj, rfl, ds, hds, ho, hg⟩ := hrel
        have hlen : ds.length = n := by rw [hds.out.1.length_eq, Hn.out]
        match j, hj, hds with
        | 0, hj, hds =>
          have Hs : Hid (ds.Perm zs ∧ SortedTo ds (k + 1)) := ⟨hds.out.1, hds.out.2.stop (.inl rfl)⟩
          clear hlen
          have hgt : decide ((0 : Int) < 0) = false := by decide
          go_wp2_with fail
          go_quiet ((go_at_call 270; exact Calls.quiet_of_same ((less_any _ _ _).mono fun _ _ h => ⟨h.1, h.2.symm⟩)))
          go_wp2
          go_roundw
          case rel => exact ⟨k + 1, by omega, by omega, by go_num, ds, Hs, ho.drewN _, drewN_grown hg _⟩
          case measure => simp [intOf]; omega
        | q + 1, hj, hds =>
          obtain ⟨g, c', he, hgB, hgl, c1, z1, hs1⟩ := ho.spot (k := q + 1) (by omega)
          obtain ⟨_, _, he', _, _, c2, z2, hs2⟩ := ho.spot (k := q) (by omega)
          injection he with he1 he3 he2
          subst he1 he2
          injection he' with he1 hx1 hx2
          injection he1 with he1
          injection he1 with he1 hx3
          subst he1
          clear hx1 hx2
          have Hlen := Lib.hid hlen
          have H1 := Lib.hid hs1
          have H2 := Lib.hid hs2
          have Ho := Lib.hid ho
          clear hlen hs1 hs2 he3 ho
          have b1 : (0 : Int) < (q : Int) + 1 := by omega
          have b2 : (0 : Int) ≤ (q : Int) + 1 := by omega
          have b3 : (q : Int) + 1 < (zs.length : Int) := by have := Hn.out; omega
          have b4 : (0 : Int) ≤ (q : Int) := by omega
          have b5 : (q : Int) < (zs.length : Int) := by have := Hn.out; omega
          have e1 : ((q : Int) + 1).toNat = q + 1 := by omega
          have e2 : IntKind.i64.wrap ((q : Int) + 1 - 1) = (q : Int) := IntWalk.i64_in _ (by omega) |>.trans (by omega)
          have hgt : decide ((0 : Int) < (q : Int) + 1) = true := decide_eq_true b1
          by_cases hl : gi ds (q + 1) < gi ds q
          · have hlb : decide (gi ds (q + 1) < gi ds q) = true := decide_eq_true hl
            go_wp2_with fail
            go_quiet ((go_at_call 270; exact Calls.quiet_of_same ((less_any _ _ _).mono fun _ _ h => ⟨h.1, h.2.symm⟩)))
            go_wp2_with fail
            have Hs : Hid ((swapped ds (q + 1)).Perm zs ∧ Ins (swapped ds (q + 1)) k q) :=
              ⟨(perm_swapped (by have := Hlen.out; have := Hn.out; omega) (by omega)).trans hds.out.1, hds.out.2.step (by have := Hlen.out; have := Hn.out; omega) (by omega) hj (by simpa using hl)⟩
            go_region
            go_wp2
            go_roundw
            case rel =>
              have h1 := H1.out (gi ds q)
              obtain ⟨g2, _, he2, _, _, _, _, h2⟩ := h1.spot (k := q) (by have := Hlen.out; have := Hn.out; simp; omega)
              injection he2 with he2 _ _
              injection he2 with he2
              injection he2 with he2 _
              subst he2
              exact ⟨q, by omega, by go_num, swapped ds (q + 1), Hs, (h2 (gi ds (q + 1))).of_heap rfl, grownBy_set (grownBy_set (drewN_grown hg _))⟩
            case measure => simp [intOf]
          · have hlb : decide (gi ds (q + 1) < gi ds q) = false := decide_eq_false hl
            have Hs : Hid (ds.Perm zs ∧ SortedTo ds (k + 1)) := ⟨hds.out.1, hds.out.2.stop (.inr (by simpa using hl))⟩
            go_wp2_with fail
            go_quiet ((go_at_call 270; exact Calls.quiet_of_same ((less_any _ _ _).mono fun _ _ h => ⟨h.1, h.2.symm⟩)))
            go_wp2
            go_roundw
            case rel => exact ⟨k + 1, by omega, by omega, by go_num, ds, Hs, Ho.out.drewN _, drewN_grown hg _⟩
            case measure => simp [intOf]; omega
    · have Hfin : Hid (cs.Perm zs ∧ SortedTo cs n) := ⟨hcs.out.1, fun a b h1 h2 => hcs.out.2 a b h1 (by omega)⟩
      go_wp2
      go_end0
      exact ⟨rfl, cs, Hfin.out.1, Hfin.out.2, ho, hg⟩
theorem pdq_any (v : Value) (B : Nat) (zs : List Int) (n : Nat) (lim : Int) (w : World) (hown : OwI 2 w B v zs) (hn : zs.length = n) (hb : n ≤ 12) :
    Calls Tryz.prog 252 #[v, .int .i64 0, .int .i64 n, .int .i64 lim] w fun e w' => e = .returned (.tuple #[]) ∧ ∃ cs, cs.Perm zs ∧ SortedTo cs n ∧ OwI 2 w' B v cs ∧ w.grownBy w' v.ownBlock := by
  have Hn := Lib.hid hn
  have Ho := Lib.hid hown
  clear hn hown
  have h1 : (n : Int) ≤ 12 := by omega
  go_enter Tryz.func252, Tryz.ntmps252
  go_wp2_with fail
  refine wp_loop_rounds 1 ?_
  rw [rounds_succ]
  go_wp2_with fail
  refine (insertion_any v B zs n _ Ho.out Hn.out (by omega)).mono ?_
  rintro e w1 ⟨rfl, H⟩
  have HH := Lib.hid H
  clear H
  go_wp2
  exact bodyPost_ret (v := .tuple #[]) (by simp [results, Tryz.results252, go_sem]) rfl ⟨rfl, HH.out⟩
theorem sortI_any (v : Value) (B : Nat) (zs : List Int) (w : World) (hown : OwI 2 w B v zs) (hb : zs.length ≤ 12) :
    Calls Tryz.prog 237 #[v] w fun e w' => e = .returned (.tuple #[]) ∧ ∃ cs, cs.Perm zs ∧ SortedTo cs zs.length ∧ OwI 2 w' B v cs ∧ w.grownBy w' v.ownBlock := by
  obtain ⟨A, c, rfl, _⟩ := hown.form
  have Ho := Lib.hid hown
  clear hown
  have h0 : (0 : Int) ≤ (zs.length : Int) := by omega
  have h1 : (zs.length : Int) ≤ 12 := by omega
  go_enter Tryz.func237, Tryz.ntmps237
  go_wp2_with fail
  refine (Tryz.bits_Len (zs.length : Int) _ (by omega) (by omega)).mono ?_
  rintro e w1 ⟨rfl, rfl⟩
  go_wp2_with fail
  refine (pdq_any _ B zs zs.length _ _ Ho.out rfl hb).mono ?_
  rintro e w2 ⟨rfl, H⟩
  have HH := Lib.hid H
  clear H
  go_wp2
  go_end0
  exact ⟨rfl, HH.out⟩
end Go.Proofs.YtkbfocoaobiijaaGreat

namespace Go.Proofs.YtkbfocoaobiijaaGreat
open Go.RowKit
def dd : List Int → List Int
  | [] => []
  | [x] => [x]
  | x :: y :: r => if x = y then dd (y :: r) else x :: dd (y :: r)
theorem dd_mem {z : Int} : ∀ l : List Int, z ∈ dd l ↔ z ∈ l
  | [] => Iff.rfl
  | [x] => Iff.rfl
  | x :: y :: r => by
    rw [dd]
    split
    · rename_i h
      rw [dd_mem (y :: r), h]
      simp
    · rw [List.mem_cons, dd_mem (y :: r)]; simp
theorem dd_strict : ∀ {l : List Int}, l.Pairwise (· ≤ ·) → (dd l).Pairwise (· < ·)
  | [], _ => List.Pairwise.nil
  | [x], _ => by simp [dd]
  | x :: y :: r, h => by
    have h2 := List.pairwise_cons.1 h
    rw [dd]
    split
    · exact dd_strict h2.2
    · rename_i hne
      refine List.pairwise_cons.2 ⟨fun z hz => ?_, dd_strict h2.2⟩
      rw [dd_mem] at hz
      have h3 := h2.1 y (by simp)
      have h4 : y ≤ z := by
        rcases List.mem_cons.1 hz with rfl | hz
        · exact Int.le_refl _
        · exact (List.pairwise_cons.1 h2.2).1 z hz
      omega
theorem strict_ext : ∀ {a b : List Int}, a.Pairwise (· < ·) → b.Pairwise (· < ·) → (∀ z, z ∈ a ↔ z ∈ b) → a = b
  | [], [], _, _, _ => rfl
  | [], y :: b, _, _, h => by have := (h y).2 (by simp); simp at this
  | x :: a, [], _, _, h => by have := (h x).1 (by simp); simp at this
  | x :: a, y :: b, ha, hb, h => by
    have ha2 := List.pairwise_cons.1 ha
    have hb2 := List.pairwise_cons.1 hb
    have hxy : x = y := by
      have h1 := (h x).1 (by simp)
      have h2 := (h y).2 (by simp)
      rcases List.mem_cons.1 h1 with e | h1
      · exact e
      · rcases List.mem_cons.1 h2 with e | h2
        · exact e.symm
        · have := hb2.1 x h1; have := ha2.1 y h2; omega
    subst hxy
    rw [strict_ext ha2.2 hb2.2 fun z => ?_]
    constructor
    · intro hz
      rcases List.mem_cons.1 ((h z).1 (List.mem_cons_of_mem _ hz)) with e | h1
      · have := ha2.1 z hz; omega
      · exact h1
    · intro hz
      rcases List.mem_cons.1 ((h z).2 (List.mem_cons_of_mem _ hz)) with e | h1
      · have := hb2.1 z hz; omega
      · exact h1
theorem dd_snoc (x : Int) : ∀ {l : List Int}, l ≠ [] → dd (l ++ [x]) = if l.getLast? = some x then dd l else dd l ++ [x]
  | [], h => absurd rfl h
  | [y], _ => by
    simp only [List.cons_append, List.nil_append, dd, List.getLast?_singleton, Option.some.injEq]
    split <;> simp_all
  | y :: z :: r, _ => by
    have ih := dd_snoc x (l := z :: r) (by simp)
    simp only [List.cons_append] at ih ⊢
    rw [dd, dd, ih]
    have hl : (y :: z :: r).getLast? = (z :: r).getLast? := by simp [List.getLast?_cons_cons]
    rw [hl]
    split <;> split <;> simp
end Go.Proofs.YtkbfocoaobiijaaGreat

namespace Go.Proofs.YtkbfocoaobiijaaGreat
open Go.RowKit
set_option maxRecDepth 100000
theorem last_take {zs : List Int} {k : Nat} (h0 : 0 < k) (hk : k ≤ zs.length) : (zs.take k).getLast? = some (gi zs (k - 1)) := by
  rw [List.getLast?_eq_getElem?, List.length_take, Nat.min_eq_left hk, List.getElem?_take, if_pos (by omega), List.getElem?_eq_getElem (by omega), gi_eq (by omega)]
theorem dd_take {zs : List Int} {k : Nat} (h0 : 0 < k) (hk : k < zs.length) : dd (zs.take (k + 1)) = if gi zs (k - 1) = gi zs k then dd (zs.take k) else dd (zs.take k) ++ [gi zs k] := by
  have e : zs.take (k + 1) = zs.take k ++ [gi zs k] := by
    rw [List.take_add_one, List.getElem?_eq_getElem hk, gi_eq hk]; rfl
  rw [e, dd_snoc _ (by intro h; have h' := congrArg List.length h; rw [List.length_take, List.length_nil] at h'; omega), last_take h0 (by omega)]
  simp
theorem compact_any (g n c B : Nat) (zs : List Int) (w : World) (ho : OwI 2 w B (.slice (some ⟨g, 0, none⟩) n c) zs) (hb : n < 1073741824) :
    Calls Tryz.prog 238 #[.slice (some ⟨g, 0, none⟩) n c] w fun e w' => ∃ v, e = .returned v ∧ OwI 2 w' B v (dd zs) ∧ Below B w w' := by
  have hcap := ho.cap
  have Hn := Lib.hid hcap.1
  have hnc := hcap.2
  clear hcap
  by_cases h2 : n < 2
  · have Hr : Hid (dd zs = zs) := by
      have := Hn.out
      match zs, this with
      | [], _ => rfl
      | [_], _ => rfl
      | _ :: _ :: _, h => simp at h; omega
    go_enter Tryz.func238, Tryz.ntmps238
    go_wp2
    go_ret
    exact ⟨_, rfl, by rw [Hr.out]; exact ho, Below.refl _ _⟩
  · go_enter Tryz.func238, Tryz.ntmps238
    go_wp2_with fail
    go_loopw [3] (fun i wr => ∃ k : Nat, 1 ≤ k ∧ k ≤ n ∧ i = .int .i64 k ∧ Hid (dd (zs.take k) = zs.take k) ∧ OwI 2 wr B (.slice (some ⟨g, 0, none⟩) n c) zs ∧ Below B w wr) (fun i _ => n - (intOf i).toNat)
    case atStart =>
      refine ⟨1, by omega, by omega, rfl, ?_, ho, Below.refl _ _⟩
      show _ = _
      match zs, Hn.out with
      | [], _ => rfl
      | _ :: _, _ => rfl
    case round =>
      clear ho
      obtain ⟨k, hk1, hk, rfl, hd, ho, hbel⟩ := hrel
      by_cases hlt : k < n
      · obtain ⟨c1, _⟩ := ho.spotD (k := k) (by rw [Hn.out]; exact hlt)
        obtain ⟨c2, _⟩ := ho.spotD (k := k - 1) (by rw [Hn.out]; omega)
        have hwk : IntKind.i64.wrap ((k : Int) - 1) = ((k - 1 : Nat) : Int) := by rw [IntWalk.i64_in _ ⟨by omega, by omega⟩]; omega
        have i0 : (0 : Int) ≤ (k : Int) := by omega
        have i1 : (k : Int) < (n : Int) := by omega
        have i2 : (0 : Int) ≤ ((k - 1 : Nat) : Int) := by omega
        have i3 : ((k - 1 : Nat) : Int) < (n : Int) := by omega
        have hdt := dd_take (zs := zs) (k := k) (by omega) (by rw [Hn.out]; exact hlt)
        have Hdt := Lib.hid hdt
        clear hdt
        by_cases he : gi zs (k - 1) = gi zs k
        · have heb : (gi zs k == gi zs (k - 1)) = true := by rw [he]; simp
          have Hx : Hid (dd (zs.take (k + 1)) = zs.take k) := by show _ = _; rw [Hdt.out, if_pos he, hd.out]
          clear he
          go_wp2_with fail
          go_quiet (fail)
          have ho2 := ho.drewN nq
          have hbel2 := hbel.drewN nq
          generalize wr.drewN nq = w2 at ho2 hbel2 ⊢
          clear ho hbel c1 c2
          go_wp2_with fail
          go_loopw [3, 5] (fun i j wq => ∃ (a m : Nat) (rs : List Int), i = .int .i64 a ∧ j = .int .i64 m ∧ 1 ≤ m ∧ m ≤ n - k ∧ a < k + m ∧ 1 ≤ a ∧ Hid (rs.length = n ∧ rs.take a = dd (zs.take (k + m)) ∧ ∀ t, k + m - 1 ≤ t → t < n → gi rs t = gi zs t) ∧ OwI 2 wq B (.slice (some ⟨g, 0, none⟩) n c) rs ∧ Below B w wq) (fun _ j _ => n - (intOf j).toNat)
          case atStart => exact ⟨k, 1, zs, rfl, rfl, by omega, by omega, by omega, by omega, ⟨Hn.out, Hx.out.symm, fun _ _ _ => rfl⟩, ho2, hbel2⟩
          case round =>
            clear ho2 hbel2
            obtain ⟨a, m, rs, rfl, rfl, hm1, hmn, ham, ha1, Hy, hor, hbel⟩ := hrel
            by_cases hlm : m < n - k
            · obtain ⟨c1, _⟩ := hor.spotD (k := k + m) (by rw [Hy.out.1]; omega)
              obtain ⟨c2, _⟩ := hor.spotD (k := k + (m - 1)) (by rw [Hy.out.1]; omega)
              rw [Hy.out.2.2 (k + m) (by omega) (by omega)] at c1
              rw [Hy.out.2.2 (k + (m - 1)) (by omega) (by omega)] at c2
              have hwm : IntKind.i64.wrap ((m : Int) - 1) = ((m - 1 : Nat) : Int) := by rw [IntWalk.i64_in _ ⟨by omega, by omega⟩]; omega
              have j0 : (0 : Int) ≤ (m : Int) := by omega
              have j1 : (m : Int) < ((n - k : Nat) : Int) := by omega
              have j2 : (0 : Int) ≤ ((m - 1 : Nat) : Int) := by omega
              have j3 : ((m - 1 : Nat) : Int) < ((n - k : Nat) : Int) := by omega
              have hdm := dd_take (zs := zs) (k := k + m) (by omega) (by rw [Hn.out]; omega)
              rw [show k + m - 1 = k + (m - 1) by omega] at hdm
              have Hdm := Lib.hid hdm
              clear hdm
              by_cases he2 : gi zs (k + (m - 1)) = gi zs (k + m)
              · have heb2 : (gi zs (k + m) != gi zs (k + (m - 1))) = false := by rw [he2]; simp
                have Hz : Hid (rs.length = n ∧ rs.take a = dd (zs.take (k + (m + 1))) ∧ ∀ t, k + (m + 1) - 1 ≤ t → t < n → gi rs t = gi zs t) :=
                  ⟨Hy.out.1, by rw [← Nat.add_assoc, Hdm.out, if_pos he2]; exact Hy.out.2.1, fun t h1 h2 => Hy.out.2.2 t (by omega) h2⟩
                clear he2
                go_wp2_with fail
                go_quiet (fail)
                go_wp2
                go_roundw
                case rel => exact ⟨a, m + 1, rs, rfl, by go_num, by omega, by omega, by omega, ha1, Hz, hor.drewN _, hbel.drewN _⟩
                case measure => simp [intOf]; omega
              · have heb2 : (gi zs (k + m) != gi zs (k + (m - 1))) = true := by simpa using fun h => he2 h.symm
                obtain ⟨c3, z3, hgl, hBg, hst⟩ := hor.spotD (k := a) (by rw [Hy.out.1]; omega)
                have Hz : Hid ((rs.set a (gi zs (k + m))).length = n ∧ (rs.set a (gi zs (k + m))).take (a + 1) = dd (zs.take (k + (m + 1))) ∧ ∀ t, k + (m + 1) - 1 ≤ t → t < n → gi (rs.set a (gi zs (k + m))) t = gi zs t) := by
                  refine ⟨by simp [Hy.out.1], ?_, fun t h1 h2 => ?_⟩
                  · rw [← Nat.add_assoc, Hdm.out, if_neg he2, ← Hy.out.2.1, List.take_add_one, List.take_set_of_le (Nat.le_refl _)]
                    simp [show a < rs.length by rw [Hy.out.1]; omega]
                  · rw [← Hy.out.2.2 t (by omega) h2]
                    unfold gi
                    simp [List.getD, show ¬ a = t by omega]
                have Hst := Lib.hid (fun nq => (hor.drewN nq).spotD (k := a) (by rw [Hy.out.1]; omega))
                have k0 : (0 : Int) ≤ (a : Int) := by omega
                have k1 : (a : Int) < (n : Int) := by omega
                clear he2 hst
                go_wp2_with fail
                go_quiet (fail)
                go_wp2
                go_roundw
                case rel => exact ⟨a + 1, m + 1, _, by go_num, by go_num, by omega, by omega, by omega, by omega, Hz, (Hst.out _).2.2.2.2 _, (hbel.drewN _).setCell hBg _⟩
                case measure => simp [intOf]; omega
            · obtain rfl : m = n - k := by omega
              have Hres : Hid (dd zs = rs.take a) := by
                show _ = _
                rw [Hy.out.2.1, show k + (n - k) = n by omega, ← Hn.out, List.take_length]
              obtain ⟨w9, hcl, ho9, hb9⟩ := clearI hor Hy.out.1 (a := a) (by omega) 0 (c - a)
              have hbel9 := hbel.trans hb9
              have k0 : (0 : Int) ≤ (a : Int) := by omega
              have k1 : (a : Int) < (n : Int) := by omega
              clear hb9 hor hbel
              go_wp2
              go_ret
              exact ⟨_, rfl, by rw [Hres.out]; exact ho9, hbel9⟩
        · have heb : (gi zs k == gi zs (k - 1)) = false := by rw [beq_eq_false_iff_ne]; exact fun h => he h.symm
          have Hx : Hid (dd (zs.take (k + 1)) = zs.take (k + 1)) := by
            show _ = _
            rw [Hdt.out, if_neg he, hd.out, List.take_add_one, List.getElem?_eq_getElem (by rw [Hn.out]; exact hlt), gi_eq (by rw [Hn.out]; exact hlt)]; rfl
          clear he
          go_wp2_with fail
          go_quiet (fail)
          go_wp2
          go_roundw
          case rel => exact ⟨k + 1, by omega, by omega, by go_num, Hx, ho.drewN _, hbel.drewN _⟩
          case measure => simp [intOf]; omega
      · obtain rfl : k = n := by omega
        have Hr : Hid (dd zs = zs) := by
          have := hd.out
          rwa [← Hn.out, List.take_length] at this
        go_wp2
        go_ret
        exact ⟨_, rfl, by rw [Hr.out]; exact ho, hbel⟩
end Go.Proofs.YtkbfocoaobiijaaGreat

namespace Go.Proofs.YtkbfocoaobiijaaGreat
open Go.RowKit
set_option maxRecDepth 100000
def led (f : M) (zs : List Int) : List Int := zs.map fun z => f.at z.toNat
theorem led_length (f : M) (zs : List Int) : (led f zs).length = zs.length := by simp [led]
theorem led_snoc {f : M} {zs : List Int} {k : Nat} (hk : k < zs.length) : led f (zs.take (k + 1)) = led f (zs.take k) ++ [f.at (gi zs k).toNat] := by
  rw [List.take_add_one, List.getElem?_eq_getElem hk, led, led, gi_eq hk, List.map_append]; rfl
def imQ (f : M) (zs : List Int) (z : Int) : Bool := decide (z ∈ led f zs)
theorem ups_strict : ∀ n, (ups n).Pairwise (· < ·)
  | 0 => List.Pairwise.nil
  | n + 1 => by
    rw [ups_succ, List.pairwise_append]
    refine ⟨ups_strict n, by simp, fun a ha b hb => ?_⟩
    obtain ⟨k, hk, rfl⟩ := ups_mem ha
    simp at hb; omega
theorem sel_strict (q : Int → Bool) (n : Nat) : (sel q n).Pairwise (· < ·) := (ups_strict n).filter q
theorem sel_mem {q : Int → Bool} {n : Nat} {z : Int} : z ∈ sel q n ↔ (∃ k : Nat, k < n ∧ z = k) ∧ q z = true := by
  rw [sel, List.mem_filter]
  constructor
  · rintro ⟨h1, h2⟩; exact ⟨ups_mem h1, h2⟩
  · rintro ⟨⟨k, hk, rfl⟩, h2⟩; exact ⟨by simp [ups]; exact ⟨k, hk, rfl⟩, h2⟩
theorem sorted_pair {cs : List Int} (h : SortedTo cs cs.length) : cs.Pairwise (· ≤ ·) := by
  rw [List.pairwise_iff_getElem]
  intro i j hi hj hij
  have := h i j hij hj
  rwa [gi_eq hi, gi_eq hj] at this
theorem dd_img {f : M} {zs cs : List Int} {N : Nat} (hp : cs.Perm (led f zs)) (hs : SortedTo cs cs.length) (hbd : ∀ z, z ∈ led f zs → 0 ≤ z ∧ z < N) : dd cs = sel (imQ f zs) N := by
  refine strict_ext (dd_strict (sorted_pair hs)) (sel_strict _ _) fun z => ?_
  rw [dd_mem, sel_mem, hp.mem_iff]
  constructor
  · intro h
    have := hbd z h
    exact ⟨⟨z.toNat, by omega, by omega⟩, by simp [imQ, h]⟩
  · rintro ⟨_, h⟩; simpa [imQ] using h
theorem compact_nil (w : World) : Calls Tryz.prog 238 #[.slice none 0 0] w fun e w' => e = .returned (.slice none 0 0) ∧ w = w' := by
  go_enter Tryz.func238, Tryz.ntmps238
  go_wp2
  go_ret
  exact ⟨rfl, rfl⟩
theorem compact_all (v : Value) (B : Nat) (zs : List Int) (w : World) (ho : OwI 2 w B v zs) (hb : zs.length < 1073741824) :
    Calls Tryz.prog 238 #[v] w fun e w' => ∃ v', e = .returned v' ∧ OwI 2 w' B v' (dd zs) ∧ Below B w w' := by
  rcases ho.2 with ⟨rfl, h0⟩ | ⟨g, cap, cur, rfl, _⟩
  · obtain rfl : zs = [] := List.eq_nil_of_length_eq_zero h0
    refine (compact_nil w).mono ?_
    rintro e w' ⟨rfl, rfl⟩
    exact ⟨_, rfl, ho, Below.refl _ _⟩
  · exact compact_any g zs.length cap B zs w ho hb
theorem image_any (f : M) (A : Option Addr) (n c : Nat) (zs : List Int) (w : World) (hv : Valid f) (hx : RdI w w.heap.size A zs) (hn : zs.length = n) (hb : n ≤ 12) (hbd : ∀ j, j < zs.length → 0 ≤ gi zs j ∧ gi zs j < f.p) :
    Calls Tryz.prog 184 #[.agg (mc f), .slice A n c] w fun e w' => ∃ v, e = .returned v ∧ OwI 2 w' w.heap.size v (sel (imQ f zs) 5) ∧ Below w.heap.size w w' := by
  have hp1 := hv.p1
  have hp5 := hv.p5
  have Hn := Lib.hid hn
  have Hx := Lib.hid hx
  have Hd := Lib.hid hbd
  clear hn hx hbd
  have HX : Hid (∀ w', Below w.heap.size w w' → RdI w' w.heap.size A zs) := fun w' hb => Hx.out.below hb
  go_enter Tryz.func184, Tryz.ntmps184
  go_wp2
  go_loopw [5, 10] (fun v i wr => ∃ k : Nat, k ≤ n ∧ i = .int .i64 k ∧ OwI 2 wr (w.heap.size + 1) v (led f (zs.take k)) ∧ Six wr w.heap.size f ∧ Below w.heap.size w wr) (fun _ i _ => n - (intOf i).toNat)
  case atStart => exact ⟨0, by omega, rfl, OwI.nil_, Blk.six (Blk.new _ _ _), by (repeat (first | with_reducible assumption | with_reducible exact Below.refl _ _ | with_reducible refine Below.setCell ?_ (by first | omega | (simp <;> omega)) _ | with_reducible refine Below.alloc ?_ (by first | omega | (simp <;> omega)) _ | with_reducible refine Below.drew ?_ | with_reducible refine Below.drewN ?_ _))⟩
  case round =>
    obtain ⟨k, hk, rfl, ho, hs, hbel⟩ := hrel
    obtain ⟨S, d, hv', _⟩ := ho.form
    have hlen : (led f (zs.take k)).length = k := by rw [led_length, List.length_take, Hn.out]; omega
    rw [hlen] at hv'
    subst hv'
    have Hlen := Lib.hid hlen
    have hsz := hbel.size
    have hsl := hs.lt
    clear hlen
    by_cases hlt : k < n
    · obtain ⟨b, off, rfl, hbb, c1⟩ := RdI.at_ (HX.out _ hbel) (k := k) (by rw [Hn.out]; exact hlt)
      obtain ⟨b1, b2⟩ := Hd.out k (by rw [Hn.out]; exact hlt)
      have c2 := six_at hs (gi zs k).toNat (by omega)
      have hb5 : gi zs k < 5 := by omega
      have Hls := Lib.hid (led_snoc (f := f) (zs := zs) (k := k) (by rw [Hn.out]; exact hlt))
      go_wp2_with (at_builtin; refine wpList_pushI rfl (.tmp 14) (.tmp 19) rfl (w.heap.size + 1) (.slice S k d) (led f (zs.take k)) rfl (ho.alloc _) wr.heap.size 1 (f.at (gi zs k).toNat) rfl ((Blk.new _ _ _).cell 0) (by rw [Hlen.out]; omega) (by simp; omega) (wr.heap.size + 1) (by simp) ?_; intro g' cap w4 ho' hgr hg' hlt')
      go_roundw
      case rel => exact ⟨k + 1, by omega, by go_num, by rw [Hls.out]; simpa [Hlen.out] using ho', (hs.alloc _).grown hgr (ho.ne (by omega)), (ho.alloc _).bel (hbel.alloc hsz _) hgr (by omega) (by simp; omega)⟩
      case measure => simp [intOf]; omega
    · obtain rfl : k = n := by omega
      have e : zs.take k = zs := by rw [← Hn.out, List.take_length]
      rw [e] at ho Hlen
      clear e
      go_wp2_with fail
      refine (sortI_any _ (w.heap.size + 1) (led f zs) _ ho (by rw [Hlen.out]; omega)).mono ?_
      rintro e w2 ⟨rfl, cs, hp, hsd, ho2, hg⟩
      have hcl : cs.length = k := by rw [hp.length_eq, Hlen.out]
      have Hdd : Hid (dd cs = sel (imQ f zs) 5) := dd_img hp (by rw [hp.length_eq]; exact hsd) (by
        intro z hz
        simp [led] at hz
        obtain ⟨y, hy, rfl⟩ := hz
        obtain ⟨j, hj, e⟩ := List.getElem_of_mem hy
        have := Hd.out j hj
        rw [gi_eq hj, e] at this
        have h1 := hv.lo y.toNat (by omega) (by omega)
        have h2 := hv.hi y.toNat (by omega) (by omega)
        omega)
      have hbel2 := ho.bel hbel hg (by omega) (by omega)
      have hcl2 : cs.length < 1073741824 := by omega
      clear hp hsd hg ho hcl
      go_wp2_with fail
      refine (compact_all _ (w.heap.size + 1) cs _ ho2 hcl2).mono ?_
      rintro e w3 ⟨v', rfl, ho3, hb3⟩
      rw [Hdd.out] at ho3
      have Ho := Lib.hid (ho3.mono (B' := w.heap.size) (by omega))
      have hbel3 := hbel2.trans (hb3.mono (by omega))
      clear ho2 ho3 hb3 hbel2
      go_wp2
      go_ret
      exact ⟨_, rfl, Ho.out, hbel3⟩
end Go.Proofs.YtkbfocoaobiijaaGreat

namespace Go.Proofs.YtkbfocoaobiijaaGreat
open Go.RowKit
set_option maxRecDepth 100000
def rk (f : M) : Nat := (sel (imQ f (ups f.p.toNat)) 5).length
theorem imQ_ups {f : M} {n : Nat} {k : Nat} : imQ f (ups n) k = true ↔ ∃ i, i < n ∧ f.at i = k := by
  rw [imQ, decide_eq_true_eq, led, List.mem_map]
  constructor
  · rintro ⟨z, hz, e⟩
    obtain ⟨i, hi, rfl⟩ := ups_mem hz
    exact ⟨i, hi, by simpa using e⟩
  · rintro ⟨i, hi, e⟩
    exact ⟨(i : Int), by simp [ups]; exact ⟨i, hi, rfl⟩, by simpa using e⟩
def onesN (m : Nat) : Nat := m % 2 + m / 2 % 2 + m / 4 % 2 + m / 8 % 2 + m / 16 % 2
theorem ones_fin : ∀ m : Fin 32, (sel (bq m.val) 5).length = onesN m.val := by decide +kernel
theorem ones_step {m : Nat} (h : m < 32) : onesN m = m % 2 + onesN (m / 2) := by unfold onesN; omega
theorem ones_le (m : Nat) : onesN m ≤ 5 := by unfold onesN; omega
theorem rk_im {f : M} (hf : Valid f) : onesN (im f f.p.toNat) = rk f := by
  have h5 := hf.p5
  have hlt := im_lt hf f.p.toNat (by have := hf.p1; omega)
  rw [← ones_fin ⟨_, hlt⟩, rk]
  congr 1
  refine sel_ext fun k hk => ?_
  rw [Bool.eq_iff_iff, bq_nat, im_bit, imQ_ups]
  constructor
  · rintro ⟨i, hi, e⟩; exact ⟨i, hi, by have := hf.lo i (by omega) (by omega); omega⟩
  · rintro ⟨i, hi, e⟩; exact ⟨i, hi, by omega⟩
theorem l01Ones_any (m : Nat) (w : World) (hm : m < 32) :
    Calls Tryz.prog 209 #[I m] w fun e w' => e = .returned (I (onesN m)) ∧ w = w' := by
  go_enter Tryz.func209, Tryz.ntmps209
  go_wp2
  go_loop [0, 3] (fun n c => ∃ j k : Nat, n = .int .i64 j ∧ c = .int .i64 k ∧ j < 32 ∧ Hid (k + onesN j = onesN m)) (fun n _ => (intOf n).toNat)
  case atStart => exact ⟨m, 0, rfl, rfl, hm, by show _ = _; omega⟩
  case round =>
    obtain ⟨j, k, rfl, rfl, hj, H⟩ := hrel
    have hk5 : k ≤ 5 := by have := H.out; have := ones_le m; omega
    by_cases hz : 0 < j
    · have hd : (j : Int).tdiv 2 = ((j / 2 : Nat) : Int) := by rw [Int.tdiv_eq_ediv_of_nonneg (by omega)]; omega
      have hr : (j : Int).tmod 2 = ((j % 2 : Nat) : Int) := by rw [Int.tmod_eq_emod_of_nonneg (by omega)]; omega
      have Hs : Hid (k + j % 2 + onesN (j / 2) = onesN m) := by have := H.out; have := ones_step hj; show _ = _; omega
      have hz2 : (0 : Int) < (j : Int) := by omega
      go_wp2
      go_round
      case rel => exact ⟨j / 2, k + j % 2, by go_num, by go_num, by omega, Hs.out⟩
      case measure => simp [intOf]; omega
    · obtain rfl : j = 0 := by omega
      have Hr : Hid ((k : Int) = (onesN m : Int)) := by have := H.out; have h0 : onesN 0 = 0 := rfl; show _ = _; omega
      go_wp2
      go_ret
      exact ⟨ret_int Hr.out, rfl⟩
theorem l01Rank_any (f : M) (w : World) (hf : Valid f) :
    Calls Tryz.prog 118 #[.agg (mc f)] w fun e w' => e = .returned (I (rk f)) ∧ Below w.heap.size w w' := by
  have Hr := Lib.hid (rk_im hf)
  have hlt := im_lt hf f.p.toNat (by have := hf.p1; omega)
  go_enter Tryz.func118, Tryz.ntmps118
  go_wp2_with fail
  refine (l01Image_any f _ hf).mono ?_
  rintro e w1 ⟨rfl, hb⟩
  have hl : Below w.heap.size w w1 := Below.trans (by (repeat (first | with_reducible assumption | with_reducible exact Below.refl _ _ | with_reducible refine Below.setCell ?_ (by first | omega | (simp <;> omega)) _ | with_reducible refine Below.alloc ?_ (by first | omega | (simp <;> omega)) _ | with_reducible refine Below.drew ?_ | with_reducible refine Below.drewN ?_ _))) (hb.mono (by simp <;> omega))
  go_wp2_with fail
  refine (l01Ones_any _ _ hlt).mono ?_
  rintro e w2 ⟨rfl, rfl⟩
  go_wp2
  go_ret
  exact ⟨by rw [Hr.out] <;> rfl, hl⟩
set_option maxHeartbeats 1000000 in
theorem rank_any (f : M) (w : World) (hv : Valid f) :
    Calls Tryz.prog 143 #[.agg (mc f)] w fun e w' => e = .returned (I (rk f)) ∧ Below w.heap.size w w' := by
  have hp1 := hv.p1
  have hp5 := hv.p5
  obtain ⟨n, hn⟩ : ∃ n : Nat, n = f.p.toNat := ⟨_, rfl⟩
  have hfp : f.p = (n : Int) := by omega
  have Hrk : Hid (rk f = (sel (imQ f (ups n)) 5).length) := by show _ = _; rw [hn]; rfl
  have hpt := fun w' => points_any n w' (by omega)
  rw [← hfp] at hpt
  have Hpt := Lib.hid hpt
  have hn1 : 1 ≤ n := by omega
  have hn5 : n ≤ 5 := by omega
  have Hbd : Hid (∀ j, j < (ups n).length → 0 ≤ gi (ups n) j ∧ gi (ups n) j < f.p) := by
    intro j hj
    rw [ups_length] at hj
    rw [gi_ups hj]
    omega
  clear hpt hfp hn
  go_enter Tryz.func143, Tryz.ntmps143
  go_wp2_with fail
  go_region_with (first
    | (go_at_call 133
       refine (Hpt.out _).mono ?_
       rintro e w1 ⟨v, rfl, ho, hb⟩
       have hB1 : Six w1 w.heap.size f := Six.below (Blk.six (Blk.drew (Blk.new w _ _))) hb (by simp)
       have hbel : Below w.heap.size w w1 := Below.trans (by (repeat (first | with_reducible assumption | with_reducible exact Below.refl _ _ | with_reducible refine Below.setCell ?_ (by first | omega | (simp <;> omega)) _ | with_reducible refine Below.alloc ?_ (by first | omega | (simp <;> omega)) _ | with_reducible refine Below.drew ?_ | with_reducible refine Below.drewN ?_ _))) (hb.mono (by simp <;> omega))
       obtain ⟨A, c, hv', hr⟩ := ho.form
       rw [ups_length] at hv'
       subst hv'
       clear hb ho)
    | (go_at_call 184
       refine (image_any f A n c (ups n) _ hv hr (ups_length n) (by omega) Hbd.out).mono ?_
       rintro e w2 ⟨v, rfl, ho, hb⟩
       replace hbel := hbel.trans (hb.mono hbel.size)
       obtain ⟨A2, c2, hv', _⟩ := ho.form
       rw [← Hrk.out] at hv'
       subst hv'
       clear hb ho))
  all_goals
    go_wp2
    go_ret
    exact ⟨rfl, hbel⟩
/-! ### inverses -/
def ivF (f : M) (b : Nat → Int) : Nat → Nat → Int
  | 0, j => b j
  | k + 1, j => if j = (f.at k).toNat then (k : Int) else ivF f b k j
def inv (f : M) : M := M.mk' f.p (ivF f (fun _ => 0) f.p.toNat)
end Go.Proofs.YtkbfocoaobiijaaGreat

namespace Go.Proofs.YtkbfocoaobiijaaGreat
open Go.RowKit
set_option maxRecDepth 100000
set_option linter.unusedSimpArgs false
set_option linter.unusedVariables false
theorem at_bd {f : M} (hf : Valid f) {i : Nat} (hi : i < f.p.toNat) : 0 ≤ f.at i ∧ f.at i < f.p ∧ f.p ≤ 5 ∧ i < 5 := by
  have h1 := hf.p1
  have h5 := hf.p5
  exact ⟨hf.lo i (by omega) (by omega), hf.hi i (by omega) (by omega), h5, by omega⟩
theorem sel_nodup (q : Int → Bool) (n : Nat) : (sel q n).Nodup := (sel_strict q n).imp fun h e => by omega
theorem rk_mul_r {f g : M} (hf : Valid f) (hp : f.p = g.p) : rk (mul f g) ≤ rk g := by
  unfold rk
  refine nodup_sub_len (sel_nodup _ _) fun z hz => ?_
  obtain ⟨⟨k, hk, rfl⟩, hq⟩ := sel_mem.1 hz
  rw [mul_p] at hq
  obtain ⟨i, hi, e⟩ := imQ_ups.1 hq
  refine sel_mem.2 ⟨⟨k, hk, rfl⟩, imQ_ups.2 ⟨(f.at i).toNat, ?_, ?_⟩⟩
  · have := at_bd hf hi
    rw [← hp]; omega
  · rw [at_mul f g (by have := at_bd hf hi; omega), if_pos (by omega)] at e
    exact e
theorem rk_mul_l {f g : M} (hf : Valid f) : rk (mul f g) ≤ rk f := by
  unfold rk
  have hlen : (sel (imQ f (ups f.p.toNat)) 5).length = ((sel (imQ f (ups f.p.toNat)) 5).map fun y => g.at y.toNat).length := by rw [List.length_map]
  rw [hlen]
  refine nodup_sub_len (sel_nodup _ _) fun z hz => ?_
  obtain ⟨⟨k, hk, rfl⟩, hq⟩ := sel_mem.1 hz
  rw [mul_p] at hq
  obtain ⟨i, hi, e⟩ := imQ_ups.1 hq
  rw [at_mul f g (by have := at_bd hf hi; omega), if_pos (by omega)] at e
  rw [List.mem_map]
  have hb := at_bd hf hi
  refine ⟨f.at i, sel_mem.2 ⟨⟨(f.at i).toNat, by omega, by omega⟩, ?_⟩, e⟩
  rw [show f.at i = ((f.at i).toNat : Int) by omega]
  exact imQ_ups.2 ⟨i, hi, by omega⟩
theorem rk_JJ {n : Int} {E : List M} (hm : Mnd n E) {f g : M} (hf : f ∈ E) (h : JJ E f g) : rk g ≤ rk f := by
  obtain ⟨x, hx, y, hy, rfl⟩ := h
  have vf := hm.ok f hf
  have vx := hm.ok x hx
  have vfy := hm.ok _ (hm.mulE f hf y hy)
  exact Nat.le_trans (rk_mul_r vx.1 (by rw [vx.2, vfy.2])) (rk_mul_l vf.1)
theorem rk_same {n : Int} {E : List M} (hm : Mnd n E) {i k : Nat} (hi : i < E.length) (hk : k < E.length) (h : sameK E 3 i k = true) : rk (gm E i) = rk (gm E k) := by
  rw [sameK_3, decide_eq_true_eq] at h
  have h1 := rk_JJ hm (gm_mem hi) h.1
  have h2 := rk_JJ hm (gm_mem hk) h.2
  omega
def rcL (E : List M) : List Int := (List.range (cntK E 3).toNat).map fun (c : Nat) => (rk (gm E (fk (fun j => decide (gi (clsK E 3) j = (c : Int))) E.length)) : Int)
theorem rcL_eq {n : Int} {E : List M} (hm : Mnd n E) {L : List Int} (hl : (L.length : Int) = cntK E 3) (h : ∀ j, j < E.length → gi L (gi (clsK E 3) j).toNat = (rk (gm E j) : Int)) : L = rcL E := by
  refine List.ext_getElem (by unfold rcL; rw [List.length_map, List.length_range]; omega) fun c h1 h2 => ?_
  have hcC : (c : Int) < (nm (sameK E 3) E.length).2 := by
    have : (c : Int) < cntK E 3 := by omega
    exact this
  obtain ⟨j, hj, e⟩ := nm_onto (sameK E 3) E.length (c : Int) (by omega) hcC
  have e : gi (clsK E 3) j = (c : Int) := e
  have hv := h j hj
  rw [e] at hv
  have hR : (rcL E)[c] = (rk (gm E (fk (fun j => decide (gi (clsK E 3) j = (c : Int))) E.length)) : Int) := by simp [rcL]
  have hL : L[c] = gi L (c : Int).toNat := by simp [gi, List.getD, h1]
  rw [hR, hL, hv]
  rcases fk_cases (fun j => decide (gi (clsK E 3) j = (c : Int))) E.length with ⟨a, b, _⟩ | ⟨_, b⟩
  · have b := of_decide_eq_true b
    have := rk_same hm hj a ((clsK_eq hm 3 hj a).1 (by rw [e, b]))
    rw [this]
  · have := b j hj
    simp [e] at this
theorem nm_pre (same : Nat → Nat → Bool) {q : Nat} : ∀ {i : Nat}, q < i → gi (nm same i).1 q = gi (nm same (q + 1)).1 q
  | 0, h => by omega
  | i + 1, h => by
    by_cases e : q = i
    · rw [e]
    · have hq : q < i := by omega
      rw [← nm_pre same hq]
      rcases fk_cases (fun j => same j i) i with ⟨a, b, c⟩ | ⟨_, b⟩
      · rw [nm_hit a b c]; exact gi_app (by rw [nm_length]; exact hq)
      · rw [nm_new b]; exact gi_app (by rw [nm_length]; exact hq)
theorem rc_case {E : List M} {q : Nat} (hq : q < E.length) :
    (gi (clsK E 3) q = (nm (sameK E 3) q).2 ∧ (nm (sameK E 3) (q + 1)).2 = (nm (sameK E 3) q).2 + 1) ∨
    ∃ k, k < q ∧ sameK E 3 k q = true ∧ gi (clsK E 3) q < (nm (sameK E 3) q).2 ∧ gi (clsK E 3) q = gi (clsK E 3) k ∧ (nm (sameK E 3) (q + 1)).2 = (nm (sameK E 3) q).2 := by
  have h1 : gi (clsK E 3) q = gi (nm (sameK E 3) (q + 1)).1 q := nm_pre _ hq
  have hl := nm_length (sameK E 3) q
  rcases fk_cases (fun j => sameK E 3 j q) q with ⟨a, b, c⟩ | ⟨_, b⟩
  · right
    obtain ⟨k, hk⟩ : ∃ k, k = fk (fun j => sameK E 3 j q) q := ⟨_, rfl⟩
    rw [← hk] at a b
    have hit := nm_hit a b (by rw [hk]; exact c)
    rw [hit] at h1
    have h1 : gi (clsK E 3) q = gi (nm (sameK E 3) q).1 k := by rw [h1]; exact gi_last hl
    have hv := nm_val (sameK E 3) q k a
    refine ⟨k, a, b, by rw [h1]; exact hv.2, ?_, by rw [hit]⟩
    rw [h1]
    have h2 : gi (clsK E 3) k = gi (nm (sameK E 3) (k + 1)).1 k := nm_pre _ (by omega)
    rw [h2, nm_pre (sameK E 3) a]
  · left
    have hn := nm_new b
    rw [hn] at h1
    exact ⟨by rw [h1]; exact gi_last hl, by rw [hn]⟩
set_option maxRecDepth 100000
set_option linter.unusedSimpArgs false
set_option linter.unusedVariables false
def rcR (ms : List M) : List Int := if monC ms [] = 0 then rcL (elR ms []) else []
theorem rcR_bad {ms : List M} (h : monC ms [] ≠ 0) : rcR ms = [] := if_neg h
theorem rcR_len (ms : List M) : (rcR ms).length ≤ 300 := by
  unfold rcR
  split
  · rename_i h
    obtain ⟨E, ps, hE, _⟩ := monC_el h
    have h1 := cntK_bd E 3
    have h2 := hE.len
    rw [hE.r]
    unfold rcL
    rw [List.length_map, List.length_range]
    omega
  · simp
def rcl (E : List M) (i : Nat) : Nat := (gi (clsK E 3) i).toNat
theorem rcl_val {E : List M} {i : Nat} (hi : i < E.length) : gi (clsK E 3) i = (rcl E i : Int) ∧ (rcl E i : Int) < cntK E 3 := by
  have h := clsK_val E 3 hi
  unfold rcl
  omega
theorem rcl_same {n : Int} {E : List M} (hm : Mnd n E) {i k : Nat} (hi : i < E.length) (hk : k < E.length) (h : rcl E i = rcl E k) : rk (gm E i) = rk (gm E k) := by
  refine rk_same hm hi hk ((clsK_eq hm 3 hi hk).1 ?_)
  rw [(rcl_val hi).1, (rcl_val hk).1, h]
theorem gi_set1 {zs : List Int} {i : Nat} (hi : i < zs.length) (z : Int) : gi (zs.set i z) i = z := by
  unfold gi
  rw [List.getD_eq_getElem?_getD, List.getElem?_set_self hi]
  rfl
theorem gi_set2 {zs : List Int} {i j : Nat} (hij : i ≠ j) (z : Int) : gi (zs.set i z) j = gi zs j := by
  unfold gi
  rw [List.getD_eq_getElem?_getD, List.getElem?_set_ne hij, ← List.getD_eq_getElem?_getD]
theorem rcm_bd (E : List M) {N : Nat} (hn : E.length = N) (hN : N ≤ 300) : ∀ j, j < N → 0 ≤ gi (clsK E 3) j ∧ gi (clsK E 3) j ≤ 300 := by
  subst hn
  intro j hj
  have h1 := clsK_val E 3 hj
  have h2 := cntK_bd E 3
  omega
theorem rcm_mx (E : List M) {N : Nat} (hn : E.length = N) : mxT (clsK E 3) N + 1 = cntK E 3 := by
  subst hn
  exact mxT_nm _ _
set_option maxHeartbeats 2000000 in
theorem SpecRC_any (A : Option Addr) (n c : Nat) (ms : List M) (w : World) (hx : RdM w w.heap.size A ms) (hn : ms.length = n) (hb : n < 1073741824) :
    Calls Tryz.prog 47 #[.slice A n c] w (RetSI (rcR ms) (monC ms []) w) := by
  obtain ⟨i0, hi, hz0, hz1, hz2⟩ := info_parts infoI
  have Hx := Lib.hid hx
  have Hn := Lib.hid hn
  clear hx hn
  by_cases hm : monC ms [] = 0
  · obtain ⟨E, ps, hE, _⟩ := monC_el hm
    have hR : rcR ms = rcL E := by unfold rcR; rw [if_pos hm, hE.r]
    have hG : gR ms [] = E := by unfold gR; rw [if_pos hm, hE.r]
    have hlen := hE.len
    have hn6 := hE.n6
    obtain ⟨N, hN⟩ : ∃ N, E.length = N := ⟨_, rfl⟩
    rw [hN] at hlen
    have hcb := cntK_bd E 3
    rw [hN] at hcb
    obtain ⟨C, hC⟩ : ∃ C : Nat, (C : Int) = cntK E 3 := ⟨(cntK E 3).toNat, by omega⟩
    have hC3 : C ≤ 300 := by omega
    have HcC : Hid (∀ i, i < N → rcl E i < C) := fun i hi => by have := (rcl_val (E := E) (i := i) (by rw [hN]; exact hi)).2; omega
    have HR := Lib.hid hR
    have HG := Lib.hid hG
    have HN := Lib.hid hN
    have HE := Lib.hid hE
    have Hm := Lib.hid hm
    have HC := Lib.hid hC
    have hn6' : n ≤ 6 := by rw [← Hn.out]; exact hn6
    clear hE hR hG hN hm hn6 hcb hC
    go_enter Tryz.func47, Tryz.ntmps47
    go_wp2_with fail
    refine (l03Given_any A none n c 0 0 ms [] w Hx.out Rd.nil_ Hn.out rfl hb (by decide)).mono ?_
    rintro e w1 ⟨A', c', v, rfl, hr, hv, hb1⟩
    rw [HG.out] at hr ⊢
    rw [Hm.out, HN.out]
    obtain ⟨Av, cv, hvv, _⟩ := hv.form
    subst hvv
    have Hr := Lib.hid hr
    have Hb1 := Lib.hid hb1
    have hz1' := hb1.size
    clear hr hv hb1
    go_wp2_with fail
    refine (l03Kind1_any A' N c' E A n c ms 3 true true (.inr (.inr ⟨rfl, rfl, rfl⟩)) w1 Hr.out HN.out (Rd.more (Rd.below Hx.out Hb1.out) hz1') Hn.out hlen hn6' HE.out.mnd HE.out.mem HE.out.G).mono ?_
    rintro e w3 ⟨v2, rfl, ho3, hb3⟩
    obtain ⟨A3, c3, hv3, _⟩ := ho3.form
    rw [clsK_length, HN.out] at hv3
    subst hv3
    have Hr3 := Lib.hid ho3.rdA
    have Hre := Lib.hid (Rd.more (Rd.below Hr.out hb3) hb3.size)
    have Hb3 := Lib.hid (Hb1.out.trans (hb3.mono hz1'))
    have hz3 := Hb3.out.size
    clear ho3 hb3 Hr
    go_wp2_with fail
    refine (l03Number_any A3 N c3 (clsK E 3) w3 Hr3.out (by rw [clsK_length, HN.out]) hlen (rcm_bd E HN.out hlen)).mono ?_
    rintro e w4 ⟨rfl, hb4⟩
    rw [rcm_mx E HN.out, ← HC.out]
    have Hr4 := Lib.hid (Rd.more (Rd.below Hr3.out hb4) hb4.size)
    have Hre4 := Lib.hid (Rd.more (Rd.below Hre.out hb4) hb4.size)
    have Hb4 := Lib.hid (Hb3.out.trans (hb4.mono hz3))
    have hz4 := Hb4.out.size
    clear hb4 Hr3 Hre
    go_wp2_with (at_make; refine wpList_make_full _ rfl _ _ _ rfl w4.heap.size 2 i0 (.int .i64 0) 1 Tryz.underlying39 hi hz0 hz1 .i64 .i64 _ _ C rfl rfl rfl rfl (by rw [hz2]; omega) (by unfold maxLen; omega) (Nat.le_refl _) ?_; intro w5 hown hgr; have Ho5 := Lib.hid (madeI hown); have Hb5 := Lib.hid ((Below.refl w4.heap.size w4).grown hgr (Nat.le_refl _) (fun k hk => by cases hk)); clear hown hgr)
    clear hi hz0 hz1 hz2
    obtain ⟨gD, hgD⟩ : ∃ gD, gD = w4.heap.size := ⟨_, rfl⟩
    rw [← hgD] at Ho5 ⊢
    have Hgd := Lib.hid hgD
    clear hgD
    go_loopw [9] (fun t wr => ∃ (q : Nat) (zs : List Int), t = .int .i64 q ∧ q ≤ N ∧ Below w4.heap.size w4 wr ∧ OwI 2 wr w4.heap.size (.slice (some ⟨gD, 0, none⟩) C C) zs ∧ zs.length = C ∧ Hid (∀ j, j < q → gi zs (rcl E j) = (rk (gm E j) : Int))) (fun t _ => N - (intOf t).toNat)
    case atStart => exact ⟨0, List.replicate C 0, rfl, by omega, Hb5.out, by rw [← Hgd.out]; exact Ho5.out, List.length_replicate .., fun j hj => by omega⟩
    case round =>
      clear Ho5 Hb5
      obtain ⟨q, zs, rfl, hq, hbr, hor, hzl, Hv⟩ := hrel
      have Hbr := Lib.hid hbr
      have Hor := Lib.hid hor
      have Hzl := Lib.hid hzl
      have hszr := hbr.size
      clear hbr hor hzl
      by_cases hqN : q < N
      · have hqz : (q : Int) < (N : Int) := by omega
        obtain ⟨cq, hcq⟩ : ∃ cq, cq = rcl E q := ⟨_, rfl⟩
        have hcqC : cq < C := by rw [hcq]; exact HcC.out q hqN
        have hcqz : (cq : Int) < (C : Int) := by omega
        obtain ⟨bc, oc, rfl, hbc, _⟩ := RdI.at_ Hr4.out (k := q) (by rw [clsK_length, HN.out]; exact hqN)
        obtain ⟨b6, o6, rfl, hb6, _⟩ := RdM.at_ Hre4.out (k := q) (by rw [HN.out]; exact hqN)
        obtain ⟨z, hz⟩ : ∃ z, z = gm E q := ⟨_, rfl⟩
        have hvz : Valid z := by rw [hz]; exact (HE.out.mnd.ok _ (gm_mem (by rw [HN.out]; exact hqN))).1
        have HF : Hid (∀ w', Below wr.heap.size wr w' → w'.cell? ⟨bc, oc + q, none⟩ = some (I cq) ∧ SixAt w' b6 (o6 + q * 6) z) := fun w' hS => by
          have hB := Hbr.out.trans (hS.mono hszr)
          rw [hz, hcq, ← (rcl_val (E := E) (i := q) (by rw [HN.out]; exact hqN)).1]
          exact ⟨RdI.at0 (Rd.below Hr4.out hB) (by rw [clsK_length, HN.out]; exact hqN), (RdM.six (Rd.below Hre4.out hB) (by rw [HN.out]; exact hqN)).1⟩
        have Hv2 : Hid (∀ j, j < q + 1 → gi (zs.set cq (rk z : Int)) (rcl E j) = (rk (gm E j) : Int)) := fun j hj => by
          by_cases e : cq = rcl E j
          · rw [← e, gi_set1 (by rw [Hzl.out]; exact hcqC), hz]
            by_cases e2 : j = q
            · rw [e2]
            · rw [rcl_same HE.out.mnd (i := q) (k := j) (by rw [HN.out]; exact hqN) (by rw [HN.out]; omega) (by rw [← hcq]; exact e)]
          · rw [gi_set2 e]
            exact Hv.out j (by by_cases e2 : j = q; (rw [e2] at e; exact absurd hcq e); omega)
        have Hcq := Lib.hid hcq
        have Hz := Lib.hid hz
        clear hcq hz
        go_wp2_with fail
        refine wp_region_last [] rfl (by kernel_rfl) (by kernel_rfl) (by kernel_rfl) (by kernel_rfl) (fun w' => Below wr.heap.size wr w')
          (fun w' => ∃ w3, Below wr.heap.size wr w3 ∧ w' = w3.setCell ⟨gD, cq, none⟩ (I (rk z))) _
          [.slice (some ⟨gD, 0, none⟩) C C, .slice (some ⟨bc, oc, none⟩) N c3, I q, .pointer (some ⟨bc, oc + q, none⟩), I cq, .slice (some ⟨b6, o6, none⟩) N c', I q, .pointer (some ⟨b6, o6 + q * 6, none⟩), .agg (mc z), I (rk z), .pointer (some ⟨gD, cq, none⟩), undef]
          (by simp only [putAll, List.setIfInBounds_toArray, List.set_cons_succ, List.set_cons_zero]; rfl) (Below.refl _ _).drew 11 _ rfl rfl ?hop ?hst ?hQ
        case hop =>
          refine FixBL.toL (fun w' w'' hS hb => hS.trans (hb.mono hS.size)) _ _ ?_
          refine ⟨.inr ?_, .inr ?_, .inr ?_, .inr ?_, .inr ?_, .inr ?_, .inr ?_, .inr ?_, .inr ?_, .inr ?_, .inr ?_, .inl rfl, trivial⟩
          · (with_reducible refine FixB.of ?_ ?_; rfl; intro w' hS; obtain ⟨s0, s1⟩ := HF.out _ hS; clear hS; unfold Oper.wp; go_simp; first | done | exact Below.refl _ _)
          · (with_reducible refine FixB.of ?_ ?_; rfl; intro w' hS; obtain ⟨s0, s1⟩ := HF.out _ hS; clear hS; unfold Oper.wp; go_simp; first | done | exact Below.refl _ _)
          · (with_reducible refine FixB.of ?_ ?_; rfl; intro w' hS; obtain ⟨s0, s1⟩ := HF.out _ hS; clear hS; unfold Oper.wp; go_simp; first | done | exact Below.refl _ _)
          · (with_reducible refine FixB.of ?_ ?_; rfl; intro w' hS; obtain ⟨s0, s1⟩ := HF.out _ hS; clear hS; unfold Oper.wp; go_simp; first | done | exact Below.refl _ _)
          · (with_reducible refine FixB.of ?_ ?_; rfl; intro w' hS; obtain ⟨s0, s1⟩ := HF.out _ hS; clear hS; unfold Oper.wp; go_simp; first | done | exact Below.refl _ _)
          · (with_reducible refine FixB.of ?_ ?_; rfl; intro w' hS; obtain ⟨s0, s1⟩ := HF.out _ hS; clear hS; unfold Oper.wp; go_simp; first | done | exact Below.refl _ _)
          · (with_reducible refine FixB.of ?_ ?_; rfl; intro w' hS; obtain ⟨s0, s1⟩ := HF.out _ hS; clear hS; unfold Oper.wp; go_simp; first | done | exact Below.refl _ _)
          · (with_reducible refine FixB.of ?_ ?_; rfl; intro w' hS; obtain ⟨s0, s1⟩ := HF.out _ hS; clear hS; unfold Oper.wp; go_simp; first | done | exact Below.refl _ _)
          · (with_reducible refine FixB.of ?_ ?_; rfl; intro w' hS; obtain ⟨s0, s1⟩ := HF.out _ hS; clear hS; unfold Oper.wp; go_simp; first | done | exact Below.refl _ _)
          · (with_reducible refine FixB.of ?_ ?_; rfl; intro w' hS; have s3 := Lib.hid hS; unfold Oper.wp; clear hS; go_simp; refine (l01Rank_any z _ hvz).mono ?_; rintro e w1 ⟨rfl, hb⟩; exact ⟨rfl, hb⟩)
          · (with_reducible refine FixB.of ?_ ?_; rfl; intro w' hS; obtain ⟨s0, s1⟩ := HF.out _ hS; clear hS; unfold Oper.wp; go_simp; first | done | exact Below.refl _ _)
        case hst =>
          refine ⟨rfl, fun w' hS => ?_⟩
          obtain ⟨c0, z0, _, _, _⟩ := OwI.spotAt (Hor.out.below hS (Nat.le_refl _)) (k := cq) (by rw [Hzl.out]; exact hcqC)
          have Hs := Lib.hid hS
          clear hS
          unfold Oper.wp
          go_simp
          exact ⟨w', Hs.out, rfl⟩
        case hQ =>
        rintro w' ⟨w6, hb6', rfl⟩
        obtain ⟨_, _, _, hgd5, hst⟩ := OwI.spotAt (Hor.out.below hb6' (Nat.le_refl _)) (k := cq) (by rw [Hzl.out]; exact hcqC)
        have Hend := Lib.hid (hst (rk z))
        have Hbe := Lib.hid ((Hbr.out.trans (hb6'.mono hszr)).setCell (p := ⟨gD, cq, none⟩) hgd5 (I (rk z)))
        clear hb6' hst
        go_wp2_with fail
        go_roundw
        case rel => exact ⟨q + 1, zs.set cq (rk z), by go_num, by omega, Hbe.out, Hend.out, by rw [List.length_set]; exact Hzl.out, Hv2⟩
        case measure => simp [intOf]; omega
      · obtain rfl : q = N := by omega
        have hqz : ¬ ((q : Int) < (q : Int)) := by omega
        have HF : Hid (zs = rcL E) := rcL_eq HE.out.mnd (by rw [Hzl.out]; exact HC.out) (fun j hj => Hv.out j (by rw [← HN.out]; exact hj))
        have HrE := Lib.hid Hor.out.rdA
        have Hbe := Lib.hid (Hb4.out.trans (Hbr.out.mono hz4))
        have HzC : Hid ((rcL E).length = C) := by show _ = _; rw [← HF.out]; exact Hzl.out
        go_wp2_with fail
        go_ret2
        exact .mk (some ⟨gD, 0, none⟩) C (by rw [HR.out, HzC.out, Hm.out] <;> rfl) (by rw [HR.out, ← HF.out]; exact HrE.out) Hbe.out
  · have hR := rcR_bad hm
    have hne : (monC ms [] != 0) = true := by simpa using hm
    have HR := Lib.hid hR
    clear hR hm
    go_enter Tryz.func47, Tryz.ntmps47
    go_wp2_with fail
    refine (l03Given_any A none n c 0 0 ms [] w Hx.out Rd.nil_ Hn.out rfl hb (by decide)).mono ?_
    rintro e w1 ⟨A', c', v, rfl, hr, hv, hb1⟩
    obtain ⟨Av, cv, hvv, _⟩ := hv.form
    subst hvv
    have Hb1 := Lib.hid hb1
    clear hr hv hb1
    go_wp2_with fail
    go_ret2
    exact .mk none 0 (by rw [HR.out] <;> rfl) (by rw [HR.out]; exact Rd.nil_) Hb1.out
set_option maxHeartbeats 2000000 in
theorem ImplRC_any (A : Option Addr) (n c : Nat) (ms : List M) (w : World) (hx : RdM w w.heap.size A ms) (hn : ms.length = n) (hA : A = none → n = 0 ∧ c = 0) (hb : n < 536870912) :
    Calls Tryz.prog 40 #[.slice A n c] w (RetI (rcR ms) (monC ms []) w) := by
  have Hx := Lib.hid hx
  have Hn := Lib.hid hn
  have HA := Lib.hid hA
  clear hx hn hA
  by_cases hm : monC ms [] = 0
  · obtain ⟨E, ps, hE, _⟩ := monC_el hm
    have hR : rcR ms = rcL E := by unfold rcR; rw [if_pos hm, hE.r]
    have hlen := hE.len
    have hpos := hE.pos
    obtain ⟨N, hN⟩ : ∃ N, E.length = N := ⟨_, rfl⟩
    rw [hN] at hlen hpos
    have HR := Lib.hid hR
    have HN := Lib.hid hN
    have HE := Lib.hid hE
    have Hm := Lib.hid hm
    clear hE hR hm hN
    go_enter Tryz.func40, Tryz.ntmps40
    go_wp2_with fail
    refine (monoidOf_any A none n c 0 0 ms [] w Hx.out Rd.nil_ Hn.out rfl HA.out (fun _ => ⟨rfl, rfl⟩) (by omega)).mono ?_
    rintro e w3 ⟨r, v, rfl, hb3, hr0, hs⟩
    obtain ⟨g0, rfl, hM, hv⟩ := hs ps HE.out.clo Hm.out
    rw [← HE.out.eq] at hM
    rw [Hm.out]
    obtain ⟨Av, cv, hvv, hrv⟩ := hv.form
    subst hvv
    have HM := Lib.hid hM
    have Hb3 := Lib.hid hb3
    have hz3 := hb3.size
    clear hM hs hr0 hv hrv hb3
    go_wp2_with fail
    refine (ideals_any w3 HM.out HE.out.len HE.out.mnd).mono ?_
    rintro e w4 ⟨d, rfl, hI, hb4⟩
    have HI := Lib.hid hI
    have HM4 := Lib.hid (HM.out.below hb4 (Nat.le_refl _))
    have Hb4 := Lib.hid (Hb3.out.trans (hb4.mono hz3))
    have hz4 := Hb4.out.size
    clear hI hb4 HM
    go_wp2_with fail
    refine (classes_any w4 HI.out HE.out.len HE.out.mnd).mono ?_
    rintro e w5 ⟨v, rfl, ho3, hb5⟩
    obtain ⟨A3, c3, hv3, hr3⟩ := ho3.form
    rw [clsK_length, HN.out] at hv3
    subst hv3
    have Hr5 := Lib.hid hr3
    obtain ⟨_, ev, wv, pl, vs, hM2, _, hO2, _⟩ := HM4.out.below hb5 (Nat.le_refl _)
    obtain ⟨gE, cE, rfl⟩ := hO2.some_ HE.out.pos
    have cm := hM2.c0
    rw [HN.out] at cm
    have lm := World.block_lt_of_cell? w5 ⟨g0, 0, none⟩ cm
    have Hcm := Lib.hid cm
    have Hre := Lib.hid hO2.rd
    have Hb5 := Lib.hid (Hb4.out.trans (hb5.mono hz4))
    have hz5 := Hb5.out.size
    clear ho3 hr3 hb5 hM2 hO2 cm
    go_wp2_with fail
    go_loopw [7, 23] (fun v t wr => ∃ (q : Nat) (L : List Int), t = .int .i64 q ∧ q ≤ N ∧ Below w5.heap.size w5 wr ∧ OwI 2 wr w5.heap.size v L ∧ Hid ((L.length : Int) = (nm (sameK E 3) q).2 ∧ ∀ j, j < q → gi L (rcl E j) = (rk (gm E j) : Int))) (fun _ t _ => N - (intOf t).toNat)
    case atStart => exact ⟨0, [], rfl, by omega, Below.refl _ _, OwI.nil_, ⟨rfl, fun j hj => by omega⟩⟩
    case round =>
      obtain ⟨q, L, rfl, hq, hbr, hor, Hv⟩ := hrel
      have hnb := nm_bd (sameK E 3) q
      obtain ⟨A7, c7, hv7, _⟩ := hor.form
      obtain ⟨K, hK⟩ : ∃ K, L.length = K := ⟨_, rfl⟩
      rw [hK] at hv7
      subst hv7
      have hKq : (K : Int) = (nm (sameK E 3) q).2 := by rw [← hK]; exact Hv.out.1
      have hKN : K ≤ q := by omega
      have Hbr := Lib.hid hbr
      have Hor := Lib.hid hor
      have HK := Lib.hid hK
      have hszr := hbr.size
      clear hbr hor hK
      by_cases hqN : q < N
      · have hqz : (q : Int) < (N : Int) := by omega
        obtain ⟨bc, oc, rfl, hbc, _⟩ := RdI.at_ Hr5.out (k := q) (by rw [clsK_length, HN.out]; exact hqN)
        have x1 := RdI.at0 (Rd.below Hr5.out Hbr.out) (k := q) (by rw [clsK_length, HN.out]; exact hqN)
        have hval := rcl_val (E := E) (i := q) (by rw [HN.out]; exact hqN)
        obtain ⟨cq, hcq⟩ : ∃ cq, cq = rcl E q := ⟨_, rfl⟩
        rw [← hcq] at hval
        rw [hval.1] at x1
        rcases rc_case (E := E) (q := q) (by rw [HN.out]; exact hqN) with ⟨h1, h2⟩ | ⟨k, hk, hsk, h1, h2, h3⟩
        · have hKc : cq = K := by omega
          obtain ⟨z, hz⟩ : ∃ z, z = gm E q := ⟨_, rfl⟩
          have hvz : Valid z := by rw [hz]; exact (HE.out.mnd.ok _ (gm_mem (by rw [HN.out]; exact hqN))).1
          have h6 := (RdM.six (Rd.below Hre.out Hbr.out) (k := q) (by rw [HN.out]; exact hqN)).1
          rw [← hz, Nat.zero_add] at h6
          have cm := (Hbr.out.cell (p := ⟨g0, 0, none⟩) lm).trans Hcm.out
          have Hv2 : Hid (((L ++ [(rk z : Int)]).length : Int) = (nm (sameK E 3) (q + 1)).2 ∧ ∀ j, j < q + 1 → gi (L ++ [(rk z : Int)]) (rcl E j) = (rk (gm E j) : Int)) := by
            refine ⟨by rw [List.length_append, List.length_singleton, HK.out, h2, ← hKq]; push_cast; rfl, fun j hj => ?_⟩
            by_cases e : j = q
            · rw [e, ← hcq, hKc, gi_last HK.out, hz]
            · have hjv := rcl_val (E := E) (i := j) (by rw [HN.out]; omega)
              have hlt : rcl E j < L.length := by
                have hp : gi (clsK E 3) j = gi (nm (sameK E 3) q).1 j := by
                  have e1 : gi (clsK E 3) j = gi (nm (sameK E 3) (j + 1)).1 j := nm_pre _ (by rw [HN.out]; omega)
                  rw [e1, nm_pre (sameK E 3) (show j < q by omega)]
                have := (nm_val (sameK E 3) q j (by omega)).2
                rw [HK.out]
                omega
              rw [gi_app hlt]
              exact Hv.out.2 j (by omega)
          obtain ⟨y0, y1, y2, y3, y4, y5⟩ := h6
          have Hz := Lib.hid hz
          subst hKc
          clear hnb h1 h2 hKq hval hcq hz
          go_wp2_with fail
          refine (rank_any z wr hvz).mono ?_
          rintro e w6 ⟨rfl, hb6⟩
          have Ho6 := Lib.hid (Hor.out.below hb6 (Nat.le_refl _))
          have Hb6 := Lib.hid (Hbr.out.trans (hb6.mono hszr))
          have hz6 := Hb6.out.size
          obtain ⟨rr, hrr⟩ : ∃ rr : Int, rr = (rk z : Int) := ⟨_, rfl⟩
          rw [← hrr] at Hv2 ⊢
          clear hb6 y0 y1 y2 y3 y4 y5 hrr
          go_wp2_with (at_builtin; refine wpList_pushI rfl (.tmp 32) (.tmp 41) rfl w5.heap.size (.slice A7 cq c7) L rfl (Ho6.out.alloc _) w6.heap.size 1 rr rfl ((Blk.new _ _ _).cell 0) (by rw [HK.out]; omega) (by simp; omega) (w6.heap.size + 1) (by simp) ?_; intro g' cap w7 ho' hgr hg' hlt'; have Hb7 := Lib.hid ((Ho6.out.alloc (.cells #[I rr] 2)).bel (Hb6.out.alloc (by omega) _) hgr (Nat.le_refl _) (by simp; omega)); have Ho7 := Lib.hid ho'; clear ho' hgr hg' hlt')
          go_roundw
          case rel => exact ⟨q + 1, _, by go_num, by omega, Hb7.out, Ho7.out, Hv2⟩
          case measure => simp [intOf]; omega
        · have hne : ¬ (cq = K) := by omega
          have Hv2 : Hid ((L.length : Int) = (nm (sameK E 3) (q + 1)).2 ∧ ∀ j, j < q + 1 → gi L (rcl E j) = (rk (gm E j) : Int)) := by
            refine ⟨by rw [h3]; exact Hv.out.1, fun j hj => ?_⟩
            by_cases e : j = q
            · have hc : rcl E q = rcl E k := by unfold rcl; rw [h2]
              rw [e, hc, Hv.out.2 k hk, rk_same HE.out.mnd (by rw [HN.out]; omega) (by rw [HN.out]; exact hqN) hsk]
            · exact Hv.out.2 j (by omega)
          clear hnb h1 h2 h3 hKq hval hcq hsk
          go_wp2_with fail
          go_roundw
          case rel => exact ⟨q + 1, L, by go_num, by omega, Hbr.out, Hor.out, Hv2⟩
          case measure => simp [intOf]; omega
      · obtain rfl : q = N := by omega
        have hqz : ¬ ((q : Int) < (q : Int)) := by omega
        have HF : Hid (L = rcL E) := rcL_eq HE.out.mnd (by have := Hv.out.1; rw [← HN.out] at this; exact this) (fun j hj => Hv.out.2 j (by rw [← HN.out]; exact hj))
        have Hbe := Lib.hid (Hb5.out.trans (Hbr.out.mono hz5))
        have Hoe := Lib.hid (Hor.out.mono hz5)
        clear hnb hKq
        go_wp2_with fail
        go_ret2
        exact .mk _ (by rw [Hm.out] <;> rfl) (by rw [HR.out, ← HF.out]; exact Hoe.out) Hbe.out
  · have hR := rcR_bad hm
    have hne : (monC ms [] != 0) = true := by simpa using hm
    have HR := Lib.hid hR
    have Hm := Lib.hid hm
    clear hR hm
    go_enter Tryz.func40, Tryz.ntmps40
    go_wp2_with fail
    refine (monoidOf_any A none n c 0 0 ms [] w Hx.out Rd.nil_ Hn.out rfl HA.out (fun _ => ⟨rfl, rfl⟩) (by omega)).mono ?_
    rintro e w3 ⟨r, v, rfl, hb3, hr0, hs⟩
    obtain ⟨rfl, rfl⟩ := hr0 Hm.out
    have Hb3 := Lib.hid hb3
    clear hs hr0 hb3
    go_wp2_with fail
    go_ret2
    exact .mk _ rfl (by rw [HR.out]; exact OwI.nil_) Hb3.out
set_option maxRecDepth 100000
set_option linter.unusedSimpArgs false
set_option linter.unusedVariables false
end Go.Proofs.YtkbfocoaobiijaaGreat

namespace Go.Proofs.YtkbfocoaobiijaaGreat
open Go.RowKit
set_option maxRecDepth 100000
def RetQ (res : List Int) (N : Nat) (code : Int) (w : World) (e : Ending) (w' : World) : Prop := ∃ A c, e = .returned (.tuple #[.slice A N c, I code]) ∧ RdI w' w'.heap.size A res ∧ Below w.heap.size w w'
theorem RetSI.toQ {res : List Int} {code code' : Int} {N : Nat} {w w' : World} {e : Ending} (h : RetSI res code w e w') (hN : res.length = N) (hc : code = code') : RetQ res N code' w e w' := by
  obtain ⟨A, c, rfl, hr, hb⟩ := h
  exact ⟨A, c, by rw [hN, hc], hr, hb⟩
def RetR (res : List M) (N : Nat) (code : Int) (w : World) (e : Ending) (w' : World) : Prop := ∃ A c, e = .returned (.tuple #[.slice A N c, I code]) ∧ RdM w' w'.heap.size A res ∧ Below w.heap.size w w'
theorem RetS.toR {res : List M} {code code' : Int} {N : Nat} {w w' : World} {e : Ending} (h : RetS res code w e w') (hN : res.length = N) (hc : code = code') : RetR res N code' w e w' := by
  obtain ⟨A, c, rfl, hr, hb⟩ := h
  exact ⟨A, c, by rw [hN, hc], hr, hb⟩
theorem OwM.noneA {e : TypeId} {w : World} {B n c : Nat} {A : Option Addr} {ms : List M} (h : OwM e w B (.slice A n c) ms) : A = none → n = 0 ∧ c = 0 := by
  intro hA
  rcases h.2 with ⟨h1, _⟩ | ⟨g, cap, cur, h1, _⟩
  · injection h1 with _ h2 h3; exact ⟨h2, h3⟩
  · injection h1 with h1 _ _; rw [hA] at h1; cases h1
theorem OwM.read {e : TypeId} {w : World} {B n c : Nat} {A : Option Addr} {ms : List M} (h : OwM e w B (.slice A n c) ms) : RdM w w.heap.size A ms := by
  obtain ⟨A', c', h1, hr⟩ := h.form
  injection h1 with h1 _ _
  rw [h1]; exact hr
theorem RdM.on {w w' : World} {A : Option Addr} {ms : List M} (h : RdM w w.heap.size A ms) (hb : Below w.heap.size w w') : RdM w' w'.heap.size A ms := Rd.more (Rd.below h hb) hb.size
end Go.Proofs.YtkbfocoaobiijaaGreat
