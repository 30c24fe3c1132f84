/- The walk of the statement on MapOfWord; the lists lie below the heap's end. -/
import Derived.Test.YtomhmodpiddedaaE3
import Derived.Test.YtomhmodpiddedaaS2
namespace Go.Proofs.Ytomhmodpiddedaa
open Go.RowKit
set_option maxRecDepth 100000

theorem lawWord (A A2 : Option Addr) (n c m d : Nat) (ms : List M) (us : List Int) (w : World) (hx : RdM w w.heap.size A ms) (hn : ms.length = n) (hmax : n ≤ maxLen) (hy : RdI w w.heap.size A2 us) (hm : us.length = m) :
    Calls Try.prog 7 #[.slice A n c, .slice A2 m d] w fun e w' => e = .returned (.bool true) ∧ Below w.heap.size w w' := by
  have Hn := Lib.hid hn
  have Hm := Lib.hid hm
  have HX : Hid (∀ w', Below w.heap.size w w' → RdM w' w'.heap.size A ms) := fun w' hb => Rd.more (Rd.below hx hb) hb.size
  have HY : Hid (∀ w', Below w.heap.size w w' → RdI w' w'.heap.size A2 us) := fun w' hb => Rd.more (Rd.below hy hb) hb.size
  have hmax2 : n ≤ 9223372036854775807 := by unfold maxLen at hmax; omega
  clear hn hm hx hy hmax
  by_cases hs : 1048576 < m
  · have hsi : (1048576 : Int) < (m : Int) := by omega
    go_enter Try.func7, Try.ntmps7
    go_wp2
    go_ret
    exact ⟨rfl, Below.refl _ _⟩
  · have hsi : ¬ (1048576 : Int) < (m : Int) := by omega
    by_cases hl : 1048576 < n
    · have h1 : (if (1048576 : Nat) < n then (-1 : Int) else ((1048576 - n : Nat) : Int)) = -1 := if_pos hl
      have Hsz := Lib.hid (szM_any A n c 1048576 w (by omega) hmax2)
      rw [h1] at Hsz
      clear h1
      go_enter Try.func7, Try.ntmps7
      go_wp2_with fail
      refine Hsz.out.mono ?_
      rintro e w1 ⟨rfl, rfl⟩
      go_wp2
      go_ret
      exact ⟨rfl, Below.refl _ _⟩
    · have h1 : (if (1048576 : Nat) < n then (-1 : Int) else ((1048576 - n : Nat) : Int)) = ((1048576 - n : Nat) : Int) := if_neg hl
      have Hsz := Lib.hid (szM_any A n c 1048576 w (by omega) hmax2)
      rw [h1] at Hsz
      have hnn : ¬ (((1048576 - n : Nat) : Int) < 0) := by omega
      have hb : n < 1073741824 := by omega
      have hbm : m < 1073741824 := by omega
      have hcc : (mwC ms us != mwC ms us) = false := by simp
      clear h1
      go_enter Try.func7, Try.ntmps7
      go_wp2_with fail
      refine Hsz.out.mono ?_
      rintro e w1 ⟨rfl, rfl⟩
      go_wp2_with fail
      refine (toM_any A n c ms _ (HX.out _ (Below.refl _ _)) Hn.out hb).mono ?_
      rintro e w1 ⟨v, rfl, ho, hb1⟩
      obtain ⟨A0, c0, hv, hr0⟩ := ho.form
      rw [Hn.out] at hv
      subst hv
      have hl1 := hb1
      have z1 := hb1.size
      clear hb1 ho hnn
      go_wp2_with fail
      refine (toI_any A2 m d us _ (HY.out _ hl1) Hm.out hbm).mono ?_
      rintro e w2 ⟨v, rfl, ho, hb1⟩
      obtain ⟨A1, c1, hv, hr1⟩ := ho.form
      rw [Hm.out] at hv
      subst hv
      replace hl1 := hl1.trans (hb1.mono hl1.size)
      replace hr0 := Rd.below hr0 hb1
      have z2 := hb1.size
      clear hb1 ho
      go_wp2_with fail
      refine (SpecMapOfWord_any A0 A1 n c0 m c1 ms us _ (Rd.more hr0 z2) hr1 Hn.out Hm.out hb hbm).mono ?_
      rintro e w3 ⟨rfl, hb1⟩
      replace hl1 := hl1.trans (hb1.mono hl1.size)
      have z3 := hb1.size
      clear hb1 hr0 hr1
      go_wp2_with fail
      have s6 : Six (w3.alloc (.cells (mc (mwR ms us)) 28)) w3.heap.size (mwR ms us) := Blk.six (Blk.new _ _ _)
      have hl2 : Below w.heap.size w (w3.alloc (.cells (mc (mwR ms us)) 28)) := hl1.alloc hl1.size _
      have hlt6 := s6.lt
      clear hl1
      refine (toM_any A n c ms _ (HX.out _ hl2) Hn.out hb).mono ?_
      rintro e w4 ⟨v, rfl, ho4, hb1⟩
      have HA4 : Hid (∀ A' c', v = .slice A' n c' → A' = none → n = 0 ∧ c' = 0) := fun A' c' e => by subst e; exact ho4.nilA
      obtain ⟨A4, c4, hv, hr4⟩ := ho4.form
      rw [Hn.out] at hv
      subst hv
      replace s6 := s6.below hb1 hlt6
      replace hl2 := hl2.trans (hb1.mono hl2.size)
      have z4 := hb1.size
      clear hb1 ho4
      go_wp2_with fail
      refine (toI_any A2 m d us _ (HY.out _ hl2) Hm.out hbm).mono ?_
      rintro e w5 ⟨v, rfl, ho5, hb1⟩
      obtain ⟨A5, c5, hv, hr5⟩ := ho5.form
      rw [Hm.out] at hv
      subst hv
      replace s6 := s6.below hb1 s6.lt
      replace hl2 := hl2.trans (hb1.mono hl2.size)
      replace hr4 := Rd.below hr4 hb1
      have z5 := hb1.size
      clear hb1 ho5
      go_wp2_with fail
      refine (ImplMapOfWord_any A4 A5 n c4 m c5 ms us _ (Rd.more hr4 z5) hr5 Hn.out Hm.out (HA4.out A4 c4 rfl) hb hbm).mono ?_
      rintro e w6 ⟨rfl, hb1⟩
      replace s6 := s6.below hb1 s6.lt
      replace hl2 := hl2.trans (hb1.mono hl2.size)
      replace hr4 := Rd.below' hr4 hb1 z5
      replace hr5 := Rd.below hr5 hb1
      have z6 := hb1.size
      have z60 := s6.lt
      clear hb1 HA4
      have Hr4 := Lib.hid (Rd.alloc hr4 (show w4.heap.size ≤ w6.heap.size by omega) (.cells (mc (mwR ms us)) 28))
      have Hr5 := Lib.hid (Rd.alloc hr5 z6 (.cells (mc (mwR ms us)) 28))
      replace hl2 := hl2.alloc hl2.size (.cells (mc (mwR ms us)) 28)
      have s7 : Six (w6.alloc (.cells (mc (mwR ms us)) 28)) w6.heap.size (mwR ms us) := Blk.six (Blk.new _ _ _)
      have zz : (w6.alloc (.cells (mc (mwR ms us)) 28)).heap.size = w6.heap.size + 1 := by simp
      clear hr4 hr5
      go_wp2_with fail
      refine (eqMap_self (mwR ms us) _).mono ?_
      rintro e w7 ⟨rfl, hb1⟩
      replace hl2 := hl2.trans (hb1.mono hl2.size)
      have HR4 := Lib.hid (Rd.below' Hr4.out hb1 (by simp; omega))
      have HR5 := Lib.hid (Rd.below' Hr5.out hb1 (by simp; omega))
      have z7 : w6.heap.size + 1 ≤ w7.heap.size := by have := hb1.size; simpa using this
      clear hb1 Hr4 Hr5 s6 s7
      go_wp2_with fail
      refine (toM_any A n c ms _ (HX.out _ hl2) Hn.out hb).mono ?_
      rintro e w8 ⟨v, rfl, ho8, hb1⟩
      obtain ⟨A8, c8, hv, hr8⟩ := ho8.form
      rw [Hn.out] at hv
      subst hv
      replace hl2 := hl2.trans (hb1.mono hl2.size)
      have Hr4 := Lib.hid (Rd.below' HR4.out hb1 (by omega))
      have Hr5 := Lib.hid (Rd.below' HR5.out hb1 (by omega))
      have z8 := hb1.size
      clear hb1 ho8 HR4 HR5
      go_wp2_with fail
      refine (eqM_same A4 A8 n c4 c8 ms _ Hn.out (Rd.more Hr4.out (by omega)) hr8 hb).mono ?_
      rintro e w9 ⟨rfl, hb1⟩
      replace hl2 := hl2.trans (hb1.mono hl2.size)
      have HR5 := Lib.hid (Rd.below' Hr5.out hb1 (by omega))
      have z9 := hb1.size
      clear hb1 Hr4 Hr5 hr8
      go_wp2_with fail
      refine (toI_any A2 m d us _ (HY.out _ hl2) Hm.out hbm).mono ?_
      rintro e w10 ⟨v, rfl, ho10, hb1⟩
      obtain ⟨A10, c10, hv, hr10⟩ := ho10.form
      rw [Hm.out] at hv
      subst hv
      replace hl2 := hl2.trans (hb1.mono hl2.size)
      have Hr5 := Lib.hid (Rd.below' HR5.out hb1 (by omega))
      have z10 := hb1.size
      clear hb1 ho10 HR5
      go_wp2_with fail
      refine (eqI_any A5 A10 m c5 m c10 us us _ Hm.out Hm.out (Rd.more Hr5.out (by omega)) hr10 hbm).mono ?_
      rintro e w11 ⟨rfl, hb1⟩
      rw [decide_eq_true rfl]
      replace hl2 := hl2.trans (hb1.mono hl2.size)
      clear hb1 hr10 Hr5
      go_wp2
      go_ret
      exact ⟨rfl, hl2⟩
end Go.Proofs.Ytomhmodpiddedaa
