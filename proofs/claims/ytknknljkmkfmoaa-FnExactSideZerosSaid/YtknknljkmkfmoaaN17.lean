/- Contracts of ElementsOf, SizeOf, IsElement and WordFor of both sides; the lists are as each theorem states. -/
import Derived.Test.YtknknljkmkfmoaaN16
namespace Go.Proofs.Ytknknljkmkfmoaa
open Go.RowKit
set_option maxRecDepth 100000
set_option linter.unusedSimpArgs false

theorem codeL_cases (ms xs : List M) : codeL ms xs = 0 ∨ codeL ms xs = 1 ∨ codeL ms xs = 2 := by
  unfold codeL
  split
  · split
    · exact .inl rfl
    · exact .inr (.inr rfl)
  · exact .inr (.inl rfl)
theorem elC_cases {ms xs : List M} : elC ms xs = 0 ∨ elC ms xs = 1 ∨ elC ms xs = 2 ∨ elC ms xs = 3 := by
  unfold elC
  split
  · split
    · exact .inl rfl
    · exact .inr (.inr (.inr rfl))
  · have := codeL_cases ms xs; omega
theorem elC_p {ms xs : List M} (h : elC ms xs ≠ 0) : 0 < elC ms xs ∧ elC ms xs < 4 := by
  have := elC_cases (ms := ms) (xs := xs); omega
theorem monC_nil (ms : List M) : monC ms [] = elC ms [] := by
  by_cases h : elC ms [] = 0
  · obtain ⟨E, ps, hE⟩ := elC_el h
    rw [h]
    exact hE.mon0 (by simp)
  · exact elC_mon h
/-- one map in a block of its own is a list -/
theorem rd_one {w : World} {f : M} {b : Nat} (h : Six w b f) : RdM w w.heap.size (some ⟨b, 0, none⟩) [f] := by
  refine ⟨by simp [mcs], fun _ => ⟨b, 0, rfl, h.lt, fun j u hj => ?_⟩⟩
  obtain ⟨c0, c1, c2, c3, c4, c5⟩ := h
  rw [Nat.zero_add]
  simp only [mcs, List.flatMap_cons, List.flatMap_nil, List.append_nil] at hj
  match j, hj with
  | 0, hj => simp at hj; subst hj; exact c0
  | 1, hj => simp at hj; subst hj; exact c1
  | 2, hj => simp at hj; subst hj; exact c2
  | 3, hj => simp at hj; subst hj; exact c3
  | 4, hj => simp at hj; subst hj; exact c4
  | 5, hj => simp at hj; subst hj; exact c5
  | n + 6, hj => simp at hj

theorem SpecElementsOf_any (A : Option Addr) (n c : Nat) (ms : List M) (w : World) (hx : RdM w w.heap.size A ms) (hn : ms.length = n) (hb : n < 1073741824) :
    Calls Try.prog 35 #[.slice A n c] w (RetS (elR ms []) (elC ms []) w) := by
  have Hx := Lib.hid hx
  have Hn := Lib.hid hn
  clear hx hn
  go_enter Try.func35, Try.ntmps35
  go_wp2_with fail
  refine (l02Elements_any A none n c 0 0 ms [] _ Hx.out Rd.nil_ Hn.out rfl hb (by decide)).mono ?_
  rintro e w1 ⟨A', c', rfl, hr, hb1⟩
  have Hr := Lib.hid hr
  clear hr
  go_wp2
  go_ret2
  exact .mk A' c' rfl Hr.out hb1

theorem ImplElementsOf_any (A : Option Addr) (n c : Nat) (ms : List M) (w : World) (hx : RdM w w.heap.size A ms) (hn : ms.length = n) (hA : A = none → n = 0 ∧ c = 0) (hb : n < 536870912) :
    Calls Try.prog 36 #[.slice A n c] w (RetM (elR ms []) (elC ms []) w) := by
  have Hx := Lib.hid hx
  have Hn := Lib.hid hn
  have HA := Lib.hid hA
  have hcc := monC_nil ms
  clear hx hn hA
  by_cases hc : elC ms [] = 0
  · obtain ⟨E, ps, hE⟩ := elC_el hc
    have HE := Lib.hid hE
    rw [hc] at hcc
    have Hc := Lib.hid hc
    have Hcc := Lib.hid hcc
    clear hE hc hcc
    go_enter Try.func36, Try.ntmps36
    go_wp2_with fail
    refine (monoidOf_any A none n c 0 0 ms [] _ Hx.out Rd.nil_ Hn.out rfl HA.out (fun _ => ⟨rfl, rfl⟩) (by omega)).mono ?_
    rintro e w1 ⟨r, v, rfl, hb1, hr0, hs⟩
    obtain ⟨g, rfl, hM, _⟩ := hs ps HE.out.clo Hcc.out
    obtain ⟨_, ev, wv, pl, vs, hMo, _, hO, _⟩ := hM
    rw [Hcc.out]
    have c0 := hMo.c0
    have HO := Lib.hid hO
    have Hb := Lib.hid hb1
    obtain ⟨A', c', e', _⟩ := hO.form
    subst e'
    clear hMo hO hs hb1 hr0
    go_wp2
    go_ret2
    exact .mk _ (by rw [Hc.out] <;> rfl) (by rw [HE.out.r, HE.out.eq]; exact HO.out) Hb.out
  · have hR := elR_bad hc
    have HR := Lib.hid hR
    have Hcc := Lib.hid hcc
    obtain ⟨p0, p4⟩ := elC_p hc
    have hne : (elC ms [] != 0) = true := by simpa using hc
    clear hc hcc hR
    go_enter Try.func36, Try.ntmps36
    go_wp2_with fail
    refine (monoidOf_any A none n c 0 0 ms [] _ Hx.out Rd.nil_ Hn.out rfl HA.out (fun _ => ⟨rfl, rfl⟩) (by omega)).mono ?_
    rintro e w1 ⟨r, v, rfl, hb1, hr0, hs⟩
    rw [Hcc.out]
    have Hb := Lib.hid hb1
    clear hb1 hs hr0
    go_wp2
    go_ret2
    exact .mk _ rfl (by rw [HR.out]; exact OwM.nil_) Hb.out

theorem SpecSizeOf_any (A : Option Addr) (n c : Nat) (ms : List M) (w : World) (hx : RdM w w.heap.size A ms) (hn : ms.length = n) (hb : n < 1073741824) :
    Calls Try.prog 31 #[.slice A n c] w fun e w' => e = .returned (.tuple #[I (elR ms []).length, I (elC ms [])]) ∧ Below w.heap.size w w' := by
  have Hx := Lib.hid hx
  have Hn := Lib.hid hn
  clear hx hn
  by_cases hc : elC ms [] = 0
  · have Hc := Lib.hid hc
    clear hc
    go_enter Try.func31, Try.ntmps31
    go_wp2_with fail
    refine (l02Elements_any A none n c 0 0 ms [] _ Hx.out Rd.nil_ Hn.out rfl hb (by decide)).mono ?_
    rintro e w1 ⟨A', c', rfl, hr, hb1⟩
    rw [Hc.out]
    clear hr
    go_wp2
    go_ret2
    exact ⟨by rw [Hc.out] <;> rfl, hb1⟩
  · have hR := elR_bad hc
    have HR := Lib.hid hR
    have hne : (elC ms [] != 0) = true := by simpa using hc
    clear hc hR
    go_enter Try.func31, Try.ntmps31
    go_wp2_with fail
    refine (l02Elements_any A none n c 0 0 ms [] _ Hx.out Rd.nil_ Hn.out rfl hb (by decide)).mono ?_
    rintro e w1 ⟨A', c', rfl, hr, hb1⟩
    clear hr
    go_wp2
    go_ret2
    exact ⟨by rw [HR.out] <;> rfl, hb1⟩

theorem ImplSizeOf_any (A : Option Addr) (n c : Nat) (ms : List M) (w : World) (hx : RdM w w.heap.size A ms) (hn : ms.length = n) (hA : A = none → n = 0 ∧ c = 0) (hb : n < 536870912) :
    Calls Try.prog 32 #[.slice A n c] w fun e w' => e = .returned (.tuple #[I (elR ms []).length, I (elC ms [])]) ∧ Below w.heap.size w w' := by
  have Hx := Lib.hid hx
  have Hn := Lib.hid hn
  have HA := Lib.hid hA
  clear hx hn hA
  go_enter Try.func32, Try.ntmps32
  go_wp2_with fail
  refine (ImplElementsOf_any A n c ms _ Hx.out Hn.out HA.out hb).mono ?_
  rintro e w1 ⟨v, rfl, ho, hb1⟩
  obtain ⟨A', c', rfl, _⟩ := ho.form
  clear ho
  go_wp2
  go_ret2
  exact ⟨rfl, hb1⟩

/-! ### IsElement -/
def isElB (ms : List M) (f : M) : Bool := decide (elC ms [f] = 0) && decide (f ∈ elR ms [f])
theorem SpecIsElement_any (A : Option Addr) (n c : Nat) (ms : List M) (f : M) (w : World) (hx : RdM w w.heap.size A ms) (hn : ms.length = n) (hb : n < 1073741824) :
    Calls Try.prog 26 #[.slice A n c, .agg (mc f)] w fun e w' => e = .returned (.tuple #[.bool (isElB ms f), I (elC ms [f])]) ∧ Below w.heap.size w w' := by
  obtain ⟨wb, hwb⟩ : ∃ wb, wb = (w.alloc (.cells (mc f) 31)).alloc (.cells (mc f) 31) := ⟨_, rfl⟩
  have hbb : Below w.heap.size w wb := by rw [hwb]; exact ((Below.refl _ _).alloc (Nat.le_refl _) _).alloc (by simp) _
  have h6 : Six wb w.heap.size f := by rw [hwb]; exact Six.alloc (Blk.six (Blk.new w _ _)) _
  have h7 : RdM wb wb.heap.size (some ⟨w.heap.size + 1, 0, none⟩) [f] := by rw [hwb]; exact rd_one (Blk.six (Blk.new' _ _ _ (by simp)))
  have Hx := Lib.hid (Rd.more (Rd.below hx hbb) hbb.size)
  have Hn := Lib.hid hn
  have H6 := Lib.hid h6
  have H7 := Lib.hid h7
  have Hbb := Lib.hid hbb
  have Hwb := Lib.hid hwb
  have hlt := h6.lt
  clear hx hn h6 h7 hbb hwb
  by_cases hc : elC ms [f] = 0
  · obtain ⟨E, ps, hE⟩ := elC_el hc
    have hvf := (hE.X f (by simp)).1
    have HEv : Hid (∀ g ∈ E, Valid g) := fun g hg => (hE.mnd.ok g hg).1
    have hlen := hE.len
    have hB : isElB ms f = decide (f ∈ E) := by unfold isElB; rw [decide_eq_true hc, Bool.true_and, hE.r]
    have HB := Lib.hid hB
    have HE := Lib.hid hE
    have Hc := Lib.hid hc
    clear hE hc hB
    go_enter Try.func26, Try.ntmps26
    go_wp2_with fail
    rw [← Hwb.out]
    refine (l02Elements_any A (some ⟨w.heap.size + 1, 0, none⟩) n c 1 1 ms [f] wb Hx.out H7.out Hn.out rfl hb (by decide)).mono ?_
    rintro e w1 ⟨A', c', rfl, hr, hb1⟩
    rw [HE.out.r] at hr ⊢
    rw [Hc.out]
    have Hr := Lib.hid hr
    have Hb1 := Lib.hid hb1
    obtain ⟨d0, d1, d2, d3, d4, d5⟩ := H6.out.below hb1 hlt
    clear hr hb1
    go_wp2_with fail
    refine (l02Find_any A' E.length c' E f _ Hr.out rfl (by omega) HE.out.mnd.asc HEv.out hvf).mono ?_
    rintro e w2 ⟨rfl, hb2⟩
    have Hb2 := Lib.hid (Hbb.out.trans ((Hb1.out.trans (hb2.mono Hb1.out.size)).mono Hbb.out.size))
    clear hb2 d0 d1 d2 d3 d4 d5
    by_cases hin : f ∈ E
    · obtain ⟨x, hx⟩ : ∃ x : Nat, plOf E f - 1 = (x : Int) := ⟨ix E f, by rw [plOf_in hin]; omega⟩
      have hx0 : (0 : Int) ≤ (x : Int) := by omega
      rw [hx]
      have Hin := Lib.hid hin
      clear hin hx
      go_wp2
      go_ret2
      exact ⟨by rw [HB.out, Hc.out, decide_eq_true Hin.out] <;> rfl, Hb2.out⟩
    · have hx : plOf E f - 1 = -1 := by rw [plOf_out hin]; rfl
      rw [hx]
      have Hin := Lib.hid hin
      clear hin hx
      go_wp2
      go_ret2
      exact ⟨by rw [HB.out, Hc.out, decide_eq_false Hin.out] <;> rfl, Hb2.out⟩
  · have hB : isElB ms f = false := by unfold isElB; rw [decide_eq_false hc, Bool.false_and]
    have HB := Lib.hid hB
    have hne : (elC ms [f] != 0) = true := by simpa using hc
    clear hc hB
    go_enter Try.func26, Try.ntmps26
    go_wp2_with fail
    rw [← Hwb.out]
    refine (l02Elements_any A (some ⟨w.heap.size + 1, 0, none⟩) n c 1 1 ms [f] wb Hx.out H7.out Hn.out rfl hb (by decide)).mono ?_
    rintro e w1 ⟨A', c', rfl, hr, hb1⟩
    have Hb2 := Lib.hid (Hbb.out.trans (hb1.mono Hbb.out.size))
    clear hr hb1
    go_wp2
    go_ret2
    exact ⟨by rw [HB.out] <;> rfl, Hb2.out⟩
theorem ImplIsElement_any (A : Option Addr) (n c : Nat) (ms : List M) (f : M) (w : World) (hx : RdM w w.heap.size A ms) (hn : ms.length = n) (hA : A = none → n = 0 ∧ c = 0) (hb : n < 536870912) :
    Calls Try.prog 29 #[.slice A n c, .agg (mc f)] w fun e w' => e = .returned (.tuple #[.bool (isElB ms f), I (elC ms [f])]) ∧ Below w.heap.size w w' := by
  obtain ⟨wb, hwb⟩ : ∃ wb, wb = (w.alloc (.cells (mc f) 31)).alloc (.cells (mc f) 31) := ⟨_, rfl⟩
  have hbb : Below w.heap.size w wb := by rw [hwb]; exact ((Below.refl _ _).alloc (Nat.le_refl _) _).alloc (by simp) _
  have h7 : RdM wb wb.heap.size (some ⟨w.heap.size + 1, 0, none⟩) [f] := by rw [hwb]; exact rd_one (Blk.six (Blk.new' _ _ _ (by simp)))
  have Hx := Lib.hid (Rd.more (Rd.below hx hbb) hbb.size)
  have Hn := Lib.hid hn
  have HA := Lib.hid hA
  have H7 := Lib.hid h7
  have Hbb := Lib.hid hbb
  have Hwb := Lib.hid hwb
  clear hx hn h7 hbb hwb hA
  have key : ∃ x : Int, monC ms [f] = x ∧ ((x = 4 ∧ isElB ms f = false ∧ elC ms [f] = 0) ∨ (x = 0 ∧ isElB ms f = true ∧ elC ms [f] = 0) ∨ (0 < x ∧ x < 4 ∧ isElB ms f = false ∧ elC ms [f] = x)) := by
    refine ⟨_, rfl, ?_⟩
    by_cases hc : elC ms [f] = 0
    · obtain ⟨E, ps, hE⟩ := elC_el hc
      have hB : isElB ms f = decide (f ∈ E) := by unfold isElB; rw [decide_eq_true hc, Bool.true_and, hE.r]
      rw [hB, hE.mon]
      by_cases hin : f ∈ E
      · right; left; simp [hin, hc]
      · left; simp [hin, hc]
    · right; right
      have hB : isElB ms f = false := by unfold isElB; rw [decide_eq_false hc, Bool.false_and]
      rw [elC_mon hc]
      exact ⟨(elC_p hc).1, (elC_p hc).2, hB, rfl⟩
  obtain ⟨x, hx, key⟩ := key
  have Hmx := Lib.hid hx
  clear hx
  go_enter Try.func29, Try.ntmps29
  go_wp2_with fail
  rw [← Hwb.out]
  refine (monoidOf_any A (some ⟨w.heap.size + 1, 0, none⟩) n c 1 1 ms [f] wb Hx.out H7.out Hn.out rfl HA.out (fun h => (by cases h)) (by omega)).mono ?_
  rintro e w1 ⟨r, v, rfl, hb1, hr0, hs⟩
  rw [Hmx.out]
  have Hb2 := Lib.hid (Hbb.out.trans (hb1.mono Hbb.out.size))
  clear hb1 hs hr0
  rcases key with ⟨rfl, hB, hc⟩ | ⟨rfl, hB, hc⟩ | ⟨p0, p4, hB, hc⟩
  · have HB := Lib.hid hB
    have Hc := Lib.hid hc
    clear hB hc
    go_wp2
    go_ret2
    exact ⟨by rw [HB.out, Hc.out] <;> rfl, Hb2.out⟩
  · have HB := Lib.hid hB
    have Hc := Lib.hid hc
    clear hB hc
    go_wp2
    go_ret2
    exact ⟨by rw [HB.out, Hc.out] <;> rfl, Hb2.out⟩
  · have HB := Lib.hid hB
    have Hc := Lib.hid hc
    have h4 : (x == 4) = false := by simp; omega
    have h0 : (x == 0) = false := by simp; omega
    clear hB hc
    go_wp2
    go_ret2
    exact ⟨by rw [HB.out, Hc.out] <;> rfl, Hb2.out⟩
end Go.Proofs.Ytknknljkmkfmoaa
