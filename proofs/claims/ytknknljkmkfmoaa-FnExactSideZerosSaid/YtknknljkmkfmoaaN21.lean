/- Contracts of IsCommutative and IsRegularIn of the program; the lists are as each theorem states. -/
import Derived.Test.YtknknljkmkfmoaaN20
namespace Go.Proofs.Ytknknljkmkfmoaa
open Go.RowKit
set_option maxRecDepth 100000
set_option linter.unusedSimpArgs false

theorem allB_any {n : Int} {B g : Nat} {E : List M} {us : List (List Int)} (fn : Nat) (p : Nat → Bool) (w : World) (h : MonAt n B g E us w) (hpos : 0 < E.length) (hE : E.length ≤ 300)
    (eg : ∀ args w, (callFunc fn args).run Try.prog w = .ok (.enter fn args) w)
    (hc : ∀ w', Below w.heap.size w w' → ∀ i, i < E.length → Calls Try.prog fn #[.pointer (some ⟨g, 0, none⟩), I i] w' fun e w'' => e = .returned (.bool (p i)) ∧ Below w'.heap.size w' w'') :
    Calls Try.prog 84 #[.pointer (some ⟨g, 0, none⟩), .func (.func fn) #[.pointer (some ⟨g, 0, none⟩)] #[]] w fun e w' => e = .returned (.bool ((List.range E.length).all p)) ∧ Below w.heap.size w w' := by
  obtain ⟨_, ev, wv, pl, vs, hM, hP, hO, _⟩ := h
  obtain ⟨gE, cE, rfl⟩ := hO.some_ (by omega)
  have c0 := hM.c0
  have Hc := Lib.hid hc
  clear hM hP hO hc
  go_enter Try.func84, Try.ntmps84
  go_wp2_with fail
  go_loopw [11] (fun i wr => ∃ r : Nat, i = .int .i64 r ∧ r ≤ E.length ∧ Below w.heap.size w wr ∧ (List.range r).all p = true) (fun i _ => E.length - (intOf i).toNat)
  case atStart => exact ⟨0, rfl, by omega, Below.refl _ _, rfl⟩
  case round =>
    obtain ⟨r, rfl, hr, hb, hp⟩ := hrel
    have Hb := Lib.hid hb
    have Hp := Lib.hid hp
    clear hb hp
    by_cases hrl : r < E.length
    · have hrE : (r : Int) < (E.length : Int) := by omega
      go_wp2_with fail
      refine (Hc.out _ Hb.out r hrl).mono ?_
      rintro e w2 ⟨rfl, hb2⟩
      have Hb2 := Lib.hid (Hb.out.trans (hb2.mono Hb.out.size))
      have hs : (List.range (r + 1)).all p = p r := by rw [List.range_succ, List.all_append, Hp.out]; simp
      clear hb2
      cases hpr : p r
      · have hall : (List.range E.length).all p = false := by
          rw [Bool.eq_false_iff, ne_eq, List.all_eq_true]
          intro h
          rw [h r (List.mem_range.2 hrl)] at hpr
          cases hpr
        go_wp2
        go_ret
        exact ⟨by rw [hall]; rfl, Hb2.out⟩
      · rw [hpr] at hs
        have Hs := Lib.hid hs
        clear hs
        go_wp2
        go_roundw
        case rel => exact ⟨r + 1, by go_num, by omega, Hb2.out, Hs.out⟩
        case measure => simp [intOf]; omega
    · obtain rfl : r = E.length := by omega
      have hrl' : ¬ ((E.length : Int) < (E.length : Int)) := by omega
      go_wp2
      go_ret
      exact ⟨by rw [Hp.out]; rfl, Hb.out⟩

def comB (E : List M) : Bool := (List.range E.length).all (centB E)
def comR (ms : List M) : Bool := decide (elC ms [] = 0) && comB (elR ms [])
theorem ImplCom_any (A : Option Addr) (n c : Nat) (ms : List M) (w : World) (hx : RdM w w.heap.size A ms) (hn : ms.length = n) (hA : A = none → n = 0 ∧ c = 0) (hb : n < 536870912) :
    Calls Try.prog 34 #[.slice A n c] w fun e w' => e = .returned (.tuple #[.bool (comR ms), I (elC ms [])]) ∧ Below w.heap.size w w' := by
  have Hx := Lib.hid hx
  have Hn := Lib.hid hn
  have HA := Lib.hid hA
  have hcc := monC_nil ms
  have eg : ∀ args w, (callFunc 85 args).run Try.prog w = .ok (.enter 85 args) w := enters_of Try.func85 (by kernel_rfl) rfl
  have Heg := Lib.hid eg
  clear hx hn hA eg
  by_cases hc : elC ms [] = 0
  · obtain ⟨E, ps, hE⟩ := elC_el hc
    have HE := Lib.hid hE
    have hlen := hE.len
    have hpos := hE.pos
    have hR : comR ms = comB E := by unfold comR; rw [decide_eq_true hc, Bool.true_and, hE.r]
    have HR := Lib.hid hR
    rw [hc] at hcc
    have Hc := Lib.hid hc
    have Hcc := Lib.hid hcc
    clear hE hc hcc hR
    go_enter Try.func34, Try.ntmps34
    go_wp2_with fail
    refine (monoidOf_any A none n c 0 0 ms [] _ Hx.out Rd.nil_ Hn.out rfl HA.out (fun _ => ⟨rfl, rfl⟩) (by omega)).mono ?_
    rintro e w1 ⟨r, v, rfl, hb1, hr0, hs⟩
    obtain ⟨g, rfl, hM, _⟩ := hs ps HE.out.clo Hcc.out
    rw [← HE.out.eq] at hM
    rw [Hcc.out]
    have HM := Lib.hid hM
    have Hb1 := Lib.hid hb1
    clear hM hs hb1 hr0
    go_wp2_with fail
    refine (allB_any 85 (centB E) w1 HM.out hpos hlen Heg.out fun w' hb' i hi => isCentral_any i w' (HM.out.below hb' (Nat.le_refl _)) hlen HE.out.mnd hi).mono ?_
    rintro e w2 ⟨rfl, hb2⟩
    have Hb2 := Lib.hid (Hb1.out.trans (hb2.mono Hb1.out.size))
    have HR2 : Hid (comR ms = (List.range E.length).all (centB E)) := HR.out
    clear hb2
    go_wp2
    go_ret2
    exact ⟨by rw [HR2.out, Hc.out] <;> rfl, Hb2.out⟩
  · have hR : comR ms = false := by unfold comR; rw [decide_eq_false hc]; rfl
    have HR := Lib.hid hR
    have Hcc := Lib.hid hcc
    obtain ⟨p0, p4⟩ := elC_p hc
    have hne : (elC ms [] == 0) = false := by simpa using hc
    clear hc hcc hR
    go_enter Try.func34, Try.ntmps34
    go_wp2_with fail
    refine (monoidOf_any A none n c 0 0 ms [] _ Hx.out Rd.nil_ Hn.out rfl HA.out (fun _ => ⟨rfl, rfl⟩) (by omega)).mono ?_
    rintro e w1 ⟨r, v, rfl, hb1, hr0, hs⟩
    rw [Hcc.out]
    have Hb := Lib.hid hb1
    clear hb1 hs hr0
    go_wp2
    go_ret2
    exact ⟨by rw [HR.out] <;> rfl, Hb.out⟩

/-! ### a list and one map -/
theorem monC1_cases (ms : List M) (f : M) : (monC ms [f] = 0 ∧ ∃ E ps, El ms [f] E ps ∧ f ∈ E) ∨ (0 < monC ms [f] ∧ monC ms [f] < 5) := by
  by_cases hc : elC ms [f] = 0
  · obtain ⟨E, ps, hE⟩ := elC_el hc
    rw [hE.mon]
    by_cases hin : f ∈ E
    · left; simp [hin]; exact ⟨E, ⟨ps, hE⟩, hin⟩
    · right; simp [hin]
  · right
    rw [elC_mon hc]
    have := elC_p hc
    omega
def irR (ms : List M) (f : M) : Bool := decide (monC ms [f] = 0) && regB (elR ms [f]) (ix (elR ms [f]) f)
theorem ImplRegIn_any (A : Option Addr) (n c : Nat) (ms : List M) (f : M) (w : World) (hx : RdM w w.heap.size A ms) (hn : ms.length = n) (hA : A = none → n = 0 ∧ c = 0) (hb : n < 536870912) :
    Calls Try.prog 45 #[.slice A n c, .agg (mc f)] w fun e w' => e = .returned (.tuple #[.bool (irR ms f), I (monC ms [f])]) ∧ Below w.heap.size w w' := by
  obtain ⟨wb, hwb⟩ : ∃ wb, wb = (w.alloc (.cells (mc f) 31)).alloc (.cells (mc f) 31) := ⟨_, rfl⟩
  have hbb : Below w.heap.size w wb := by rw [hwb]; exact ((Below.refl _ _).alloc (Nat.le_refl _) _).alloc (by simp) _
  have h7 : RdM wb wb.heap.size (some ⟨w.heap.size + 1, 0, none⟩) [f] := by rw [hwb]; exact rd_one (Blk.six (Blk.new' _ _ _ (by simp)))
  have Hx := Lib.hid (Rd.more (Rd.below hx hbb) hbb.size)
  have Hn := Lib.hid hn
  have HA := Lib.hid hA
  have H7 := Lib.hid h7
  have Hbb := Lib.hid hbb
  have Hwb := Lib.hid hwb
  clear hx hn h7 hbb hwb hA
  rcases monC1_cases ms f with ⟨hc, E, ps, hE, hin⟩ | ⟨p0, p5⟩
  · have hR : irR ms f = regB E (ix E f) := by unfold irR; rw [decide_eq_true hc, Bool.true_and, hE.r]
    have HR := Lib.hid hR
    have HE := Lib.hid hE
    have Hc := Lib.hid hc
    have hlen := hE.len
    have hix := ix_lt hin
    have Hix := Lib.hid hix
    obtain ⟨x, hx⟩ : ∃ x, x = ix E f := ⟨_, rfl⟩
    have Hxx := Lib.hid hx
    clear hE hc hR hin hix hx
    go_enter Try.func45, Try.ntmps45
    go_wp2_with fail
    rw [← Hwb.out]
    refine (monoidOf_any A (some ⟨w.heap.size + 1, 0, none⟩) n c 1 1 ms [f] wb Hx.out H7.out Hn.out rfl HA.out (fun h => (by cases h)) (by omega)).mono ?_
    rintro e w1 ⟨r, v, rfl, hb1, hr0, hs⟩
    obtain ⟨g, rfl, hM, hO⟩ := hs ps HE.out.clo Hc.out
    rw [← HE.out.eq] at hM hO
    simp only [List.map_cons, List.map_nil] at hO
    rw [← Hxx.out] at hO
    rw [Hc.out]
    obtain ⟨Av, cv, hv, hrv⟩ := hO.form
    subst hv
    obtain ⟨b, off, e, hbv, c0⟩ := RdI.at_ hrv (k := 0) (by simp)
    subst e
    rw [Nat.add_zero] at c0
    have c1 : w1.cell? ⟨b, off, none⟩ = some (I x) := c0
    have HM := Lib.hid hM
    have Hb1 := Lib.hid (Hbb.out.trans (hb1.mono Hbb.out.size))
    clear hM hs hb1 hr0 hO hrv c0
    simp only [List.length_singleton]
    go_wp2_with fail
    refine (isRegular_any x w1 HM.out hlen HE.out.mnd (by rw [Hxx.out]; exact Hix.out)).mono ?_
    rintro e w2 ⟨rfl, hb2⟩
    have Hb2 := Lib.hid (Hb1.out.trans (hb2.mono Hb1.out.size))
    clear hb2
    go_wp2
    go_ret2
    exact ⟨by rw [HR.out, Hc.out, ← Hxx.out] <;> rfl, Hb2.out⟩
  · have hR : irR ms f = false := by unfold irR; rw [decide_eq_false (by omega)]; rfl
    have HR := Lib.hid hR
    have hne : (monC ms [f] != 0) = true := by simp; omega
    clear hR
    go_enter Try.func45, Try.ntmps45
    go_wp2_with fail
    rw [← Hwb.out]
    refine (monoidOf_any A (some ⟨w.heap.size + 1, 0, none⟩) n c 1 1 ms [f] wb Hx.out H7.out Hn.out rfl HA.out (fun h => (by cases h)) (by omega)).mono ?_
    rintro e w1 ⟨r, v, rfl, hb1, hr0, hs⟩
    have Hb1 := Lib.hid (Hbb.out.trans (hb1.mono Hbb.out.size))
    clear hs hb1 hr0
    go_wp2
    go_ret2
    exact ⟨by rw [HR.out] <;> rfl, Hb1.out⟩
end Go.Proofs.Ytknknljkmkfmoaa
