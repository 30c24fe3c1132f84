/- Contracts of CentreOf, IdempotentsOf, SideZeros, ZeroOf, IsCommutative and IsRegularIn of the program; the lists are as each theorem states. -/
import Derived.Test.YtknknljkmkfmoaaN19
namespace Go.Proofs.Ytknknljkmkfmoaa
open Go.RowKit
set_option maxRecDepth 100000
set_option linter.unusedSimpArgs false

theorem centreF_any (A : Option Addr) (n c : Nat) (ms : List M) (w : World) (hx : RdM w w.heap.size A ms) (hn : ms.length = n) (hA : A = none → n = 0 ∧ c = 0) (hb : n < 536870912) :
    Calls Try.prog 54 #[.slice A n c] w (RetM (thatR centB ms) (elC ms []) w) := by
  have H := Lib.hid (elementsThat_any A n c ms 85 #[] centB w hx hn hA hb (enters_of Try.func85 (by kernel_rfl) rfl)
    fun E ps hE B g us w1 hM _ i hi => isCentral_any i w1 hM hE.len hE.mnd hi)
  clear hx hn hA
  go_enter Try.func54, Try.ntmps54
  go_wp2_with fail
  refine H.out.mono ?_
  rintro e w1 ⟨v, rfl, ho, hb1⟩
  obtain ⟨A', c', rfl, _⟩ := ho.form
  have Ho := Lib.hid ho
  clear ho
  go_wp2
  go_ret2
  exact .mk _ rfl Ho.out hb1

theorem idem1_any {n : Int} {B g : Nat} {E : List M} {us : List (List Int)} (i : Nat) (w : World) (h : MonAt n B g E us w) (hm : Mnd n E) (hi : i < E.length) :
    Calls Try.prog 93 #[.pointer (some ⟨g, 0, none⟩), I i] w fun e w' => e = .returned (.bool (isIdem (gm E i))) ∧ Below w.heap.size w w' := by
  obtain ⟨_, ev, wv, pl, vs, hM, hP, hO, _⟩ := h
  obtain ⟨gE, cE, rfl⟩ := hO.some_ (by omega)
  have c0 := hM.c0
  have hv := (hm.ok _ (gm_mem hi)).1
  have h6 := RdM.at_ hO.rd (k := i) hi
  obtain ⟨b', off', e, _, h6⟩ := h6
  injection e with e
  injection e with e1 e2 _
  subst e1 e2
  rw [Nat.zero_add] at h6
  obtain ⟨f, hf⟩ : ∃ f, f = gm E i := ⟨_, rfl⟩
  rw [← hf] at h6 hv ⊢
  obtain ⟨x0, x1, x2, x3, x4, x5⟩ := h6
  have ki : (i : Int) < (E.length : Int) := by omega
  clear hM hP hO hf
  go_enter Try.func93, Try.ntmps93
  go_wp2_with fail
  refine (isIdem_any f w hv).mono ?_
  rintro e w1 ⟨rfl, hb1⟩
  go_wp2
  go_ret
  exact ⟨rfl, hb1⟩
def idemB (E : List M) (i : Nat) : Bool := isIdem (gm E i)
theorem idemF_any (A : Option Addr) (n c : Nat) (ms : List M) (w : World) (hx : RdM w w.heap.size A ms) (hn : ms.length = n) (hA : A = none → n = 0 ∧ c = 0) (hb : n < 536870912) :
    Calls Try.prog 49 #[.slice A n c] w (RetM (thatR idemB ms) (elC ms []) w) := by
  have H := Lib.hid (elementsThat_any A n c ms 93 #[] idemB w hx hn hA hb (enters_of Try.func93 (by kernel_rfl) rfl)
    fun E ps hE B g us w1 hM _ i hi => idem1_any i w1 hM hE.mnd hi)
  clear hx hn hA
  go_enter Try.func49, Try.ntmps49
  go_wp2_with fail
  refine H.out.mono ?_
  rintro e w1 ⟨v, rfl, ho, hb1⟩
  obtain ⟨A', c', rfl, _⟩ := ho.form
  have Ho := Lib.hid ho
  clear ho
  go_wp2
  go_ret2
  exact .mk _ rfl Ho.out hb1

theorem sideF1_any {n : Int} {B g : Nat} {E : List M} {us : List (List Int)} (b i : Nat) (r : Bool) (w : World) (h : MonAt n B g E us w) (hE : E.length ≤ 300) (hm : Mnd n E) (hi : i < E.length) (c1 : w.cell? ⟨b, 0, none⟩ = some (.bool r)) :
    Calls Try.prog 99 #[.pointer (some ⟨g, 0, none⟩), I i, .pointer (some ⟨b, 0, none⟩)] w fun e w' => e = .returned (.bool (sideB E r i)) ∧ Below w.heap.size w w' := by
  have H := Lib.hid (isSideZero_any i r w h hE hm hi)
  clear h
  go_enter Try.func99, Try.ntmps99
  go_wp2_with fail
  refine H.out.mono ?_
  rintro e w1 ⟨rfl, hb1⟩
  go_wp2
  go_ret
  exact ⟨rfl, hb1⟩
theorem sideF_any (A : Option Addr) (n c : Nat) (ms : List M) (r : Bool) (w : World) (hx : RdM w w.heap.size A ms) (hn : ms.length = n) (hA : A = none → n = 0 ∧ c = 0) (hb : n < 536870912) :
    Calls Try.prog 56 #[.slice A n c, .bool r] w (RetM (thatR (fun E => sideB E r) ms) (elC ms []) w) := by
  obtain ⟨wb, hwb⟩ : ∃ wb, wb = w.alloc (.cells #[.bool r] 4) := ⟨_, rfl⟩
  have hbb : Below w.heap.size w wb := by rw [hwb]; exact (Below.refl _ _).alloc (Nat.le_refl _) _
  have c1 : wb.cell? ⟨w.heap.size, 0, none⟩ = some (.bool r) := by rw [hwb]; exact (Blk.new w _ _).cell 0
  have l1 := World.block_lt_of_cell? wb ⟨w.heap.size, 0, none⟩ c1
  have H := Lib.hid (elementsThat_any A n c ms 99 #[.pointer (some ⟨w.heap.size, 0, none⟩)] (fun E => sideB E r) wb (Rd.more (Rd.below hx hbb) hbb.size) hn hA hb (enters_of Try.func99 (by kernel_rfl) rfl)
    fun E ps hE B g us w1 hM hb1 i hi => sideF1_any _ i r w1 hM hE.len hE.mnd hi ((hb1.cell l1).trans c1))
  have Hbb := Lib.hid hbb
  have Hwb := Lib.hid hwb
  obtain ⟨R, hR⟩ : ∃ R, R = thatR (fun E => sideB E r) ms := ⟨_, rfl⟩
  rw [← hR] at H ⊢
  clear hx hn hA hbb hwb c1 l1 hR
  go_enter Try.func56, Try.ntmps56
  go_wp2_with fail
  rw [← Hwb.out]
  refine H.out.mono ?_
  rintro e w1 ⟨v, rfl, ho, hb1⟩
  obtain ⟨A', c', rfl, _⟩ := ho.form
  have Ho := Lib.hid (ho.mono Hbb.out.size)
  have Hb := Lib.hid (Hbb.out.trans (hb1.mono Hbb.out.size))
  clear ho hb1
  go_wp2
  go_ret2
  exact .mk _ rfl Ho.out Hb.out

/-! ### zeros -/
def zeroB (E : List M) (i : Nat) : Bool := sideB E true i && sideB E false i
theorem zeroF1_any {n : Int} {B g : Nat} {E : List M} {us : List (List Int)} (i : Nat) (w : World) (h : MonAt n B g E us w) (hE : E.length ≤ 300) (hm : Mnd n E) (hi : i < E.length) :
    Calls Try.prog 96 #[.pointer (some ⟨g, 0, none⟩), I i] w fun e w' => e = .returned (.bool (zeroB E i)) ∧ Below w.heap.size w w' := by
  have H1 := Lib.hid (isSideZero_any i true w h hE hm hi)
  have H2 := Lib.hid (fun w' (hb : Below w.heap.size w w') => isSideZero_any i false w' (h.below hb (Nat.le_refl _)) hE hm hi)
  clear h
  cases hs : sideB E true i
  · rw [hs] at H1
    have Hr : Hid (zeroB E i = false) := by show _ = _; unfold zeroB; rw [hs]; rfl
    clear hs
    go_enter Try.func96, Try.ntmps96
    go_wp2_with fail
    refine H1.out.mono ?_
    rintro e w1 ⟨rfl, hb1⟩
    go_wp2
    go_ret
    exact ⟨ret_bool Hr.out.symm, hb1⟩
  · rw [hs] at H1
    have Hr : Hid (zeroB E i = sideB E false i) := by show _ = _; unfold zeroB; rw [hs]; rfl
    clear hs
    go_enter Try.func96, Try.ntmps96
    go_wp2_with fail
    refine H1.out.mono ?_
    rintro e w1 ⟨rfl, hb1⟩
    have Hb1 := Lib.hid hb1
    clear hb1
    go_wp2_with fail
    refine (H2.out w1 Hb1.out).mono ?_
    rintro e w2 ⟨rfl, hb2⟩
    have Hb := Lib.hid (Hb1.out.trans (hb2.mono Hb1.out.size))
    clear hb2
    go_wp2
    go_ret
    exact ⟨ret_bool Hr.out.symm, Hb.out⟩
/-- the zero and the code -/
def zeroR (ms : List M) : M := (thatR zeroB ms).headD M0
def zeroC (ms : List M) : Int := if elC ms [] = 0 then (if thatR zeroB ms = [] then 4 else 0) else elC ms []
theorem zeroF_any (A : Option Addr) (n c : Nat) (ms : List M) (w : World) (hx : RdM w w.heap.size A ms) (hn : ms.length = n) (hA : A = none → n = 0 ∧ c = 0) (hb : n < 536870912) :
    Calls Try.prog 51 #[.slice A n c] w fun e w' => e = .returned (.tuple #[.agg (mc (zeroR ms)), I (zeroC ms)]) ∧ Below w.heap.size w w' := by
  obtain ⟨wb, hwb⟩ : ∃ wb, wb = w.alloc (.cells #[.int .i64 0, .int .i64 0, .int .i64 0, .int .i64 0, .int .i64 0, .int .i64 0] 31) := ⟨_, rfl⟩
  have hbb : Below w.heap.size w wb := by rw [hwb]; exact (Below.refl _ _).alloc (Nat.le_refl _) _
  have HB : Hid (Blk wb w.heap.size 31 (mc M0)) := by show Blk _ _ _ _; rw [hwb]; exact Blk.new w _ _
  have H := Lib.hid (elementsThat_any A n c ms 96 #[] zeroB wb (Rd.more (Rd.below hx hbb) hbb.size) hn hA hb (enters_of Try.func96 (by kernel_rfl) rfl)
    fun E ps hE B g us w1 hM _ i hi => zeroF1_any i w1 hM hE.len hE.mnd hi)
  have Hbb := Lib.hid hbb
  have Hwb := Lib.hid hwb
  have hlt := HB.out.lt
  clear hx hn hA hbb hwb
  by_cases hc : elC ms [] = 0
  · rw [hc] at H
    cases hz : thatR zeroB ms with
    | nil =>
      have HC : Hid (zeroC ms = 4) := by show _ = _; unfold zeroC; rw [if_pos hc, if_pos hz]
      have HR : Hid (zeroR ms = M0) := by show _ = _; unfold zeroR; rw [hz]; rfl
      rw [hz] at H
      clear hc hz
      go_enter Try.func51, Try.ntmps51
      go_wp2_with fail
      rw [← Hwb.out]
      refine H.out.mono ?_
      rintro e w1 ⟨v, rfl, ho, hb1⟩
      obtain ⟨A', c', rfl, _⟩ := ho.form
      have HB1 := HB.out.below hb1 hlt
      obtain ⟨e0, e1, e2, e3, e4, e5⟩ := HB1.six
      obtain ⟨z0, z1, z2, z3, z4, z5⟩ := HB1.fr6
      have Hb := Lib.hid (Hbb.out.trans (hb1.mono Hbb.out.size))
      clear ho hb1
      go_wp2
      refine bodyPost_ret (v := .tuple #[.agg (mc M0), I 4]) ?_ rfl ⟨by rw [HR.out, HC.out], below_st6 Hb.out (Nat.le_refl _) M0⟩
      simp [results, Try.results51, go_sem, *]
      exact ⟨rfl, rfl, rfl, rfl, rfl, rfl⟩
    | cons f L =>
      have HC : Hid (zeroC ms = 0) := by show _ = _; unfold zeroC; rw [if_pos hc, if_neg (by rw [hz]; simp)]
      have HR : Hid (zeroR ms = f) := by show _ = _; unfold zeroR; rw [hz]; rfl
      rw [hz] at H
      clear hc hz
      go_enter Try.func51, Try.ntmps51
      go_wp2_with fail
      rw [← Hwb.out]
      refine H.out.mono ?_
      rintro e w1 ⟨v, rfl, ho, hb1⟩
      obtain ⟨g, c', rfl⟩ := ho.some_ (by simp)
      have h6 := RdM.at_ ho.rd (k := 0) (by simp)
      obtain ⟨b', off', e, _, h6⟩ := h6
      injection e with e
      injection e with e1 e2 _
      subst e1 e2
      rw [Nat.zero_add, Nat.zero_mul] at h6
      obtain ⟨x0, x1, x2, x3, x4, x5⟩ := h6
      have hgm : gm (f :: L) 0 = f := rfl
      rw [hgm] at x0 x1 x2 x3 x4 x5
      rw [List.length_cons] at *
      have HB1 := HB.out.below hb1 hlt
      have Hbk := Lib.hid HB1
      obtain ⟨e0, e1, e2, e3, e4, e5⟩ := HB1.six
      obtain ⟨z0, z1, z2, z3, z4, z5⟩ := HB1.fr6
      have Hb := Lib.hid (Hbb.out.trans (hb1.mono Hbb.out.size))
      have hl0 : ¬ ((L.length : Int) + 1 = 0) := by omega
      clear ho hb1 hgm HB1
      go_wp2
      refine bodyPost_ret (v := .tuple #[.agg (mc f), I 0]) ?_ rfl ⟨by rw [HR.out, HC.out], below_st6 Hb.out (Nat.le_refl _) f⟩
      simp [results, Try.results51, go_sem, *]
  · have hR : thatR zeroB ms = [] := by unfold thatR; rw [elR_bad hc]; rfl
    have HC : Hid (zeroC ms = elC ms []) := by show _ = _; unfold zeroC; rw [if_neg hc]
    have HR : Hid (zeroR ms = M0) := by show _ = _; unfold zeroR; rw [hR]; rfl
    have hne : (elC ms [] != 0) = true := by simpa using hc
    clear hc hR
    go_enter Try.func51, Try.ntmps51
    go_wp2_with fail
    rw [← Hwb.out]
    refine H.out.mono ?_
    rintro e w1 ⟨v, rfl, ho, hb1⟩
    obtain ⟨A', c', rfl, _⟩ := ho.form
    have HB1 := HB.out.below hb1 hlt
    obtain ⟨e0, e1, e2, e3, e4, e5⟩ := HB1.six
    obtain ⟨z0, z1, z2, z3, z4, z5⟩ := HB1.fr6
    have Hb := Lib.hid (Hbb.out.trans (hb1.mono Hbb.out.size))
    clear ho hb1
    go_wp2
    refine bodyPost_ret (v := .tuple #[.agg (mc M0), I (elC ms [])]) ?_ rfl ⟨by rw [HR.out, HC.out], below_st6 Hb.out (Nat.le_refl _) M0⟩
    simp [results, Try.results51, go_sem, *]
    exact ⟨rfl, rfl, rfl, rfl, rfl, rfl⟩
end Go.Proofs.Ytknknljkmkfmoaa
