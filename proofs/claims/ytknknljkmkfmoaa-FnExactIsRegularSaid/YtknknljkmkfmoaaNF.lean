/- Contracts of the reference's zeros of one side and of its centre; the lists are as each theorem states. Contracts of the reference's centre, and of CentreOf, IdempotentsOf, SideZeros and IsCommutative of the reference; the lists are as each theorem states. Contracts of CentreOf, IdempotentsOf, SideZeros, IsCommutative and ZeroOf of the reference, and that they are those of the program; the lists are as each theorem states. -/
import Derived.Test.YtknknljkmkfmoaaNE
import Derived.Test.YtknknljkmkfmoaaRX
namespace Go.Proofs.Ytknknljkmkfmoaa
open Go.RowKit
set_option maxRecDepth 100000
set_option linter.unusedSimpArgs false

theorem RdM.six {w : World} {B b off : Nat} {E : List M} (h : RdM w B (some ⟨b, off, none⟩) E) {k : Nat} (hk : k < E.length) : SixAt w b (off + k * 6) (gm E k) ∧ b < B := by
  obtain ⟨b', off', e, hb, h6⟩ := RdM.at_ h hk
  injection e with e
  injection e with e1 e2 _
  subst e1 e2
  exact ⟨h6, hb⟩
theorem take_gm {E : List M} {r : Nat} (h : r < E.length) : E.take (r + 1) = E.take r ++ [gm E r] := by
  rw [List.take_add_one, gm_eq h, List.getElem?_eq_getElem h]; rfl
theorem filter_take {E : List M} {P : M → Bool} {r : Nat} (h : r < E.length) : (E.take (r + 1)).filter P = (E.take r).filter P ++ if P (gm E r) then [gm E r] else [] := by
  rw [take_gm h, List.filter_append]
  cases hp : P (gm E r) <;> simp [hp]
theorem filter_len (E : List M) (P : M → Bool) (r : Nat) : ((E.take r).filter P).length ≤ E.length :=
  Nat.le_trans (List.length_filter_le _ _) (by rw [List.length_take]; omega)
/-- z is a zero of one side -/
def zeroQ (r : Bool) (z x : M) : Bool := decide ((if r then mul x z else mul z x) = z)
def zeroS (E : List M) (r : Bool) (z : M) : Bool := E.all (zeroQ r z)
theorem all_take {E : List M} {Q : M → Bool} {j : Nat} (h : j < E.length) : (E.take (j + 1)).all Q = ((E.take j).all Q && Q (gm E j)) := by
  rw [take_gm h, List.all_append]; simp
theorem all_not {E : List M} {Q : M → Bool} {j : Nat} (h : (E.take j).all Q = false) : E.all Q = false := by
  rw [Bool.eq_false_iff] at h ⊢
  intro h2
  refine h ?_
  rw [List.all_eq_true] at h2 ⊢
  exact fun x hx => h2 x (List.mem_of_mem_take hx)

theorem zerosR_any (A : Option Addr) (N c : Nat) (E : List M) (n : Int) (w : World) (hx : RdM w w.heap.size A E) (hn : E.length = N) (hm : Mnd n E) (hN : N ≤ 300) :
    Calls Try.prog 95 #[.slice A N c, .bool true] w fun e w' => ∃ v, e = .returned v ∧ OwM 31 w' w.heap.size v (E.filter (zeroS E true)) ∧ Below w.heap.size w w' := by
  have hpos : 0 < E.length := hm.pos
  obtain ⟨b, off, rfl, hbb, _⟩ := RdM.at_ hx hpos
  have Hx := Lib.hid hx
  have Hn := Lib.hid hn
  have HE : Hid (∀ i, i < N → Valid (gm E i)) := fun i hi => (hm.ok _ (gm_mem (by omega))).1
  have Hm := Lib.hid hm
  clear hx hn hm
  go_enter Try.func95, Try.ntmps95
  go_wp2_with fail
  go_loopw [5, 6] (fun v i wr => ∃ q : Nat, i = .int .i64 q ∧ q ≤ N ∧ Below w.heap.size w wr ∧ OwM 31 wr w.heap.size v ((E.take q).filter (zeroS E true))) (fun _ i _ => N - (intOf i).toNat)
  case atStart => exact ⟨0, rfl, by omega, (Below.refl _ _).alloc (Nat.le_refl _) _, by simpa using OwM.made (Nat.le_refl _)⟩
  case round =>
    obtain ⟨q, rfl, hq, hb, ho⟩ := hrel
    obtain ⟨L, hL⟩ : ∃ L, L = (E.take q).filter (zeroS E true) := ⟨_, rfl⟩
    rw [← hL] at ho
    have hLl : L.length ≤ 300 := by rw [hL]; have := filter_len E (zeroS E true) q; have := Hn.out; omega
    have HL := Lib.hid hL
    obtain ⟨A1, c1, hv, _⟩ := ho.form
    obtain ⟨k1, hk1⟩ : ∃ k1, L.length = k1 := ⟨_, rfl⟩
    rw [hk1] at hv hLl
    subst hv
    have Hk1 := Lib.hid hk1
    have Hb := Lib.hid hb
    have Ho := Lib.hid ho
    clear hb ho hL hk1
    by_cases hqN : q < N
    · have hqi : (q : Int) < (N : Int) := by omega
      go_wp2_with fail
      go_loopw [7, 8] (fun gd k wr => ∃ j : Nat, k = .int .i64 j ∧ j ≤ N ∧ gd = .bool ((E.take j).all (zeroQ true (gm E q))) ∧ Below w.heap.size w wr ∧ OwM 31 wr w.heap.size (.slice A1 k1 c1) L) (fun _ k _ => N - (intOf k).toNat)
      case atStart => exact ⟨0, rfl, by omega, by simp, Hb.out, Ho.out⟩
      case round =>
        clear Hb Ho
        obtain ⟨j, rfl, hj, rfl, hb, ho⟩ := hrel
        have Hb := Lib.hid hb
        have Ho := Lib.hid ho
        clear hb ho
        cases hg : (E.take j).all (zeroQ true (gm E q))
        · have Hz : Hid (zeroS E true (gm E q) = false) := all_not hg
          have Hf : Hid ((E.take (q + 1)).filter (zeroS E true) = L) := by show _ = _; rw [filter_take (by rw [Hn.out]; exact hqN), Hz.out, ← HL.out]; simp
          clear hg
          by_cases hjN : j < N
          · have hji : (j : Int) < (N : Int) := by omega
            go_wp2_with fail
            go_roundw
            case rel => exact ⟨q + 1, by go_num, by omega, Hb.out, by rw [Hf.out]; exact Ho.out⟩
            case measure => simp [intOf]; omega
          · have hji : ¬ (j : Int) < (N : Int) := by omega
            go_wp2_with fail
            go_roundw
            case rel => exact ⟨q + 1, by go_num, by omega, Hb.out, by rw [Hf.out]; exact Ho.out⟩
            case measure => simp [intOf]; omega
        · by_cases hjN : j < N
          · have hji : (j : Int) < (N : Int) := by omega
            have hs := all_take (Q := zeroQ true (gm E q)) (by rw [Hn.out]; exact hjN)
            rw [hg, Bool.true_and] at hs
            have hxx := Rd.more (Rd.below Hx.out Hb.out) Hb.out.size
            have H6i := Lib.hid (RdM.six hxx (k := q) (by rw [Hn.out]; exact hqN)).1
            have H6k := Lib.hid (RdM.six hxx (k := j) (by rw [Hn.out]; exact hjN)).1
            have hvi := HE.out q hqN
            have hvk := HE.out j hjN
            have hbl := H6i.out.lt
            obtain ⟨z, hz⟩ : ∃ z, z = gm E q := ⟨_, rfl⟩
            obtain ⟨x, hxk⟩ : ∃ x, x = gm E j := ⟨_, rfl⟩
            rw [← hz] at H6i hvi hs
            rw [← hxk] at H6k hvk hs
            have Hz := Lib.hid hz
            have heq := eqMap_run (mul x z) z
            obtain ⟨d, hd⟩ : ∃ d, d = decide (mul x z = z) := ⟨_, rfl⟩
            rw [← hd] at heq
            have hsd : (E.take (j + 1)).all (zeroQ true z) = d := by rw [hs, hd]; rfl
            have Hs := Lib.hid hsd
            clear hg hs hd hsd hz hxk hxx
            go_wp2_with fail
            refine wp_region_same [] rfl (by kernel_rfl) (by kernel_rfl) (by kernel_rfl) (fun w' => Below wr.heap.size wr w') _
              [.slice (some ⟨b, off, none⟩) N c, I j, .pointer (some ⟨b, off + j * 6, none⟩), .agg (mc x), .slice (some ⟨b, off, none⟩) N c, I q, .pointer (some ⟨b, off + q * 6, none⟩), .agg (mc z), .agg (mc (mul x z)), .slice (some ⟨b, off, none⟩) N c, I q, .pointer (some ⟨b, off + q * 6, none⟩), .agg (mc z), .bool d, .bool d]
              (by simp only [putAll, List.setIfInBounds_toArray, List.set_cons_succ, List.set_cons_zero]; rfl) (Below.refl _ _).drew ?hop ?hQ
            case hop =>
              refine FixBL.toL (fun w' w'' hS hb => hS.trans (hb.mono hS.size)) _ _ ?_
              refine ⟨.inr ?_, .inr ?_, .inr ?_, .inr ?_, .inr ?_, .inr ?_, .inr ?_, .inr ?_, .inr ?_, .inr ?_, .inr ?_, .inr ?_, .inr ?_, .inr ?_, .inr ?_, trivial⟩
              · (with_reducible refine FixB.of ?_ ?_; rfl; intro w' hS; have s0 := H6i.out.below hS hbl; have s1 := H6k.out.below hS hbl; clear hS; unfold Oper.wp; go_simp; first | done | exact Below.refl _ _)
              · (with_reducible refine FixB.of ?_ ?_; rfl; intro w' hS; have s0 := H6i.out.below hS hbl; have s1 := H6k.out.below hS hbl; clear hS; unfold Oper.wp; go_simp; first | done | exact Below.refl _ _)
              · (with_reducible refine FixB.of ?_ ?_; rfl; intro w' hS; have s0 := H6i.out.below hS hbl; have s1 := H6k.out.below hS hbl; clear hS; unfold Oper.wp; go_simp; first | done | exact Below.refl _ _)
              · (with_reducible refine FixB.of ?_ ?_; rfl; intro w' hS; have s0 := H6i.out.below hS hbl; have s1 := H6k.out.below hS hbl; clear hS; unfold Oper.wp; go_simp; first | done | exact Below.refl _ _)
              · (with_reducible refine FixB.of ?_ ?_; rfl; intro w' hS; have s0 := H6i.out.below hS hbl; have s1 := H6k.out.below hS hbl; clear hS; unfold Oper.wp; go_simp; first | done | exact Below.refl _ _)
              · (with_reducible refine FixB.of ?_ ?_; rfl; intro w' hS; have s0 := H6i.out.below hS hbl; have s1 := H6k.out.below hS hbl; clear hS; unfold Oper.wp; go_simp; first | done | exact Below.refl _ _)
              · (with_reducible refine FixB.of ?_ ?_; rfl; intro w' hS; have s0 := H6i.out.below hS hbl; have s1 := H6k.out.below hS hbl; clear hS; unfold Oper.wp; go_simp; first | done | exact Below.refl _ _)
              · (with_reducible refine FixB.of ?_ ?_; rfl; intro w' hS; have s0 := H6i.out.below hS hbl; have s1 := H6k.out.below hS hbl; clear hS; unfold Oper.wp; go_simp; first | done | exact Below.refl _ _)
              · (with_reducible refine FixB.of ?_ ?_; rfl; intro w' hS; have s3 := Lib.hid hS; unfold Oper.wp; clear hS; go_simp; refine (l01Times_any x z _ (by assumption)).mono ?_; rintro e w1 ⟨rfl, hb⟩; exact ⟨rfl, hb⟩)
              · (with_reducible refine FixB.of ?_ ?_; rfl; intro w' hS; have s0 := H6i.out.below hS hbl; have s1 := H6k.out.below hS hbl; clear hS; unfold Oper.wp; go_simp; first | done | exact Below.refl _ _)
              · (with_reducible refine FixB.of ?_ ?_; rfl; intro w' hS; have s0 := H6i.out.below hS hbl; have s1 := H6k.out.below hS hbl; clear hS; unfold Oper.wp; go_simp; first | done | exact Below.refl _ _)
              · (with_reducible refine FixB.of ?_ ?_; rfl; intro w' hS; have s0 := H6i.out.below hS hbl; have s1 := H6k.out.below hS hbl; clear hS; unfold Oper.wp; go_simp; first | done | exact Below.refl _ _)
              · (with_reducible refine FixB.of ?_ ?_; rfl; intro w' hS; have s0 := H6i.out.below hS hbl; have s1 := H6k.out.below hS hbl; clear hS; unfold Oper.wp; go_simp; first | done | exact Below.refl _ _)
              · (with_reducible refine FixB.of ?_ ?_; rfl; intro w' hS; have s0 := H6i.out.below hS hbl; have s1 := H6k.out.below hS hbl; clear hS; unfold Oper.wp; go_simp; first | done | exact Below.refl _ _)
              · (with_reducible refine FixB.of ?_ ?_; rfl; intro w' hS; have s0 := H6i.out.below hS hbl; have s1 := H6k.out.below hS hbl; clear hS; unfold Oper.wp; go_simp; first | done | exact Below.refl _ _)
            case hQ =>
            intro wc hS _
            have HB2 := Lib.hid hS
            clear hS
            clear heq H6i H6k
            go_wp2_with fail
            go_roundw
            case rel => exact ⟨j + 1, by go_num, by omega, by rw [← Hz.out, Hs.out], Hb.out.trans (HB2.out.mono Hb.out.size), Ho.out.below HB2.out (Nat.le_refl _)⟩
            case measure => simp [intOf]; omega
          · have hji : ¬ (j : Int) < (N : Int) := by omega
            have hall : E.all (zeroQ true (gm E q)) = true := by rw [List.take_of_length_le (by rw [Hn.out]; omega)] at hg; exact hg
            have Hz : Hid (zeroS E true (gm E q) = true) := hall
            have hxx := Rd.more (Rd.below Hx.out Hb.out) Hb.out.size
            obtain ⟨x0, x1, x2, x3, x4, x5⟩ := (RdM.six hxx (k := q) (by rw [Hn.out]; exact hqN)).1
            obtain ⟨z, hzz⟩ : ∃ z, z = gm E q := ⟨_, rfl⟩
            rw [← hzz] at x0 x1 x2 x3 x4 x5
            have Hf : Hid ((E.take (q + 1)).filter (zeroS E true) = L ++ [z]) := by show _ = _; rw [filter_take (by rw [Hn.out]; exact hqN), Hz.out, ← HL.out, hzz]; simp
            have hsz := Hb.out.size
            clear hg hall hxx hzz Hz
            go_wp2_with (at_builtin; refine wpList_pushM rfl (.tmp 55) (.tmp 60) rfl w.heap.size (.slice A1 k1 c1) L rfl (Ho.out.alloc _) k1 Hk1.out wr.heap.size 1 z rfl (Blk.six (Blk.new _ _ _)) (by omega) (by simp; omega) (wr.heap.size + 1) (by simp) ?_; intro g' cap w4 ho' hgr hg' hlt'; have Hb4 := Lib.hid (((Ho.out.alloc (.cells (mc z) 31)).bel (Hb.out.alloc hsz _) hgr (Nat.le_refl _) (by simp; omega))); have Ho4 := Lib.hid ho'; clear ho' hgr hg' hlt')
            go_roundw
            case rel => exact ⟨q + 1, by go_num, by omega, Hb4.out, by rw [Hf.out]; exact Ho4.out⟩
            case measure => simp [intOf]; omega
    · obtain rfl : q = N := by omega
      have hqi : ¬ ((q : Int) < (q : Int)) := by omega
      have HR : Hid (E.filter (zeroS E true) = L) := by show _ = _; rw [HL.out, List.take_of_length_le (by rw [Hn.out]; exact Nat.le_refl _)]
      go_wp2_with fail
      go_ret
      exact ⟨_, rfl, by rw [HR.out]; exact Ho.out, Hb.out⟩

theorem zerosL_any (A : Option Addr) (N c : Nat) (E : List M) (n : Int) (w : World) (hx : RdM w w.heap.size A E) (hn : E.length = N) (hm : Mnd n E) (hN : N ≤ 300) :
    Calls Try.prog 95 #[.slice A N c, .bool false] w fun e w' => ∃ v, e = .returned v ∧ OwM 31 w' w.heap.size v (E.filter (zeroS E false)) ∧ Below w.heap.size w w' := by
  have hpos : 0 < E.length := hm.pos
  obtain ⟨b, off, rfl, hbb, _⟩ := RdM.at_ hx hpos
  have Hx := Lib.hid hx
  have Hn := Lib.hid hn
  have HE : Hid (∀ i, i < N → Valid (gm E i)) := fun i hi => (hm.ok _ (gm_mem (by omega))).1
  have Hm := Lib.hid hm
  clear hx hn hm
  go_enter Try.func95, Try.ntmps95
  go_wp2_with fail
  go_loopw [5, 6] (fun v i wr => ∃ q : Nat, i = .int .i64 q ∧ q ≤ N ∧ Below w.heap.size w wr ∧ OwM 31 wr w.heap.size v ((E.take q).filter (zeroS E false))) (fun _ i _ => N - (intOf i).toNat)
  case atStart => exact ⟨0, rfl, by omega, (Below.refl _ _).alloc (Nat.le_refl _) _, by simpa using OwM.made (Nat.le_refl _)⟩
  case round =>
    obtain ⟨q, rfl, hq, hb, ho⟩ := hrel
    obtain ⟨L, hL⟩ : ∃ L, L = (E.take q).filter (zeroS E false) := ⟨_, rfl⟩
    rw [← hL] at ho
    have hLl : L.length ≤ 300 := by rw [hL]; have := filter_len E (zeroS E false) q; have := Hn.out; omega
    have HL := Lib.hid hL
    obtain ⟨A1, c1, hv, _⟩ := ho.form
    obtain ⟨k1, hk1⟩ : ∃ k1, L.length = k1 := ⟨_, rfl⟩
    rw [hk1] at hv hLl
    subst hv
    have Hk1 := Lib.hid hk1
    have Hb := Lib.hid hb
    have Ho := Lib.hid ho
    clear hb ho hL hk1
    by_cases hqN : q < N
    · have hqi : (q : Int) < (N : Int) := by omega
      go_wp2_with fail
      go_loopw [7, 8] (fun gd k wr => ∃ j : Nat, k = .int .i64 j ∧ j ≤ N ∧ gd = .bool ((E.take j).all (zeroQ false (gm E q))) ∧ Below w.heap.size w wr ∧ OwM 31 wr w.heap.size (.slice A1 k1 c1) L) (fun _ k _ => N - (intOf k).toNat)
      case atStart => exact ⟨0, rfl, by omega, by simp, Hb.out, Ho.out⟩
      case round =>
        clear Hb Ho
        obtain ⟨j, rfl, hj, rfl, hb, ho⟩ := hrel
        have Hb := Lib.hid hb
        have Ho := Lib.hid ho
        clear hb ho
        cases hg : (E.take j).all (zeroQ false (gm E q))
        · have Hz : Hid (zeroS E false (gm E q) = false) := all_not hg
          have Hf : Hid ((E.take (q + 1)).filter (zeroS E false) = L) := by show _ = _; rw [filter_take (by rw [Hn.out]; exact hqN), Hz.out, ← HL.out]; simp
          clear hg
          by_cases hjN : j < N
          · have hji : (j : Int) < (N : Int) := by omega
            go_wp2_with fail
            go_roundw
            case rel => exact ⟨q + 1, by go_num, by omega, Hb.out, by rw [Hf.out]; exact Ho.out⟩
            case measure => simp [intOf]; omega
          · have hji : ¬ (j : Int) < (N : Int) := by omega
            go_wp2_with fail
            go_roundw
            case rel => exact ⟨q + 1, by go_num, by omega, Hb.out, by rw [Hf.out]; exact Ho.out⟩
            case measure => simp [intOf]; omega
        · by_cases hjN : j < N
          · have hji : (j : Int) < (N : Int) := by omega
            have hs := all_take (Q := zeroQ false (gm E q)) (by rw [Hn.out]; exact hjN)
            rw [hg, Bool.true_and] at hs
            have hxx := Rd.more (Rd.below Hx.out Hb.out) Hb.out.size
            have H6i := Lib.hid (RdM.six hxx (k := q) (by rw [Hn.out]; exact hqN)).1
            have H6k := Lib.hid (RdM.six hxx (k := j) (by rw [Hn.out]; exact hjN)).1
            have hvi := HE.out q hqN
            have hvk := HE.out j hjN
            have hbl := H6i.out.lt
            obtain ⟨z, hz⟩ : ∃ z, z = gm E q := ⟨_, rfl⟩
            obtain ⟨x, hxk⟩ : ∃ x, x = gm E j := ⟨_, rfl⟩
            rw [← hz] at H6i hvi hs
            rw [← hxk] at H6k hvk hs
            have Hz := Lib.hid hz
            have heq := eqMap_run (mul z x) z
            obtain ⟨d, hd⟩ : ∃ d, d = decide (mul z x = z) := ⟨_, rfl⟩
            rw [← hd] at heq
            have hsd : (E.take (j + 1)).all (zeroQ false z) = d := by rw [hs, hd]; rfl
            have Hs := Lib.hid hsd
            clear hg hs hd hsd hz hxk hxx
            go_wp2_with fail
            refine wp_region_same [] rfl (by kernel_rfl) (by kernel_rfl) (by kernel_rfl) (fun w' => Below wr.heap.size wr w') _
              [.slice (some ⟨b, off, none⟩) N c, I q, .pointer (some ⟨b, off + q * 6, none⟩), .agg (mc z), .slice (some ⟨b, off, none⟩) N c, I j, .pointer (some ⟨b, off + j * 6, none⟩), .agg (mc x), .agg (mc (mul z x)), .slice (some ⟨b, off, none⟩) N c, I q, .pointer (some ⟨b, off + q * 6, none⟩), .agg (mc z), .bool d, .bool d]
              (by simp only [putAll, List.setIfInBounds_toArray, List.set_cons_succ, List.set_cons_zero]; rfl) (Below.refl _ _).drew ?hop ?hQ
            case hop =>
              refine FixBL.toL (fun w' w'' hS hb => hS.trans (hb.mono hS.size)) _ _ ?_
              refine ⟨.inr ?_, .inr ?_, .inr ?_, .inr ?_, .inr ?_, .inr ?_, .inr ?_, .inr ?_, .inr ?_, .inr ?_, .inr ?_, .inr ?_, .inr ?_, .inr ?_, .inr ?_, trivial⟩
              · (with_reducible refine FixB.of ?_ ?_; rfl; intro w' hS; have s0 := H6i.out.below hS hbl; have s1 := H6k.out.below hS hbl; clear hS; unfold Oper.wp; go_simp; first | done | exact Below.refl _ _)
              · (with_reducible refine FixB.of ?_ ?_; rfl; intro w' hS; have s0 := H6i.out.below hS hbl; have s1 := H6k.out.below hS hbl; clear hS; unfold Oper.wp; go_simp; first | done | exact Below.refl _ _)
              · (with_reducible refine FixB.of ?_ ?_; rfl; intro w' hS; have s0 := H6i.out.below hS hbl; have s1 := H6k.out.below hS hbl; clear hS; unfold Oper.wp; go_simp; first | done | exact Below.refl _ _)
              · (with_reducible refine FixB.of ?_ ?_; rfl; intro w' hS; have s0 := H6i.out.below hS hbl; have s1 := H6k.out.below hS hbl; clear hS; unfold Oper.wp; go_simp; first | done | exact Below.refl _ _)
              · (with_reducible refine FixB.of ?_ ?_; rfl; intro w' hS; have s0 := H6i.out.below hS hbl; have s1 := H6k.out.below hS hbl; clear hS; unfold Oper.wp; go_simp; first | done | exact Below.refl _ _)
              · (with_reducible refine FixB.of ?_ ?_; rfl; intro w' hS; have s0 := H6i.out.below hS hbl; have s1 := H6k.out.below hS hbl; clear hS; unfold Oper.wp; go_simp; first | done | exact Below.refl _ _)
              · (with_reducible refine FixB.of ?_ ?_; rfl; intro w' hS; have s0 := H6i.out.below hS hbl; have s1 := H6k.out.below hS hbl; clear hS; unfold Oper.wp; go_simp; first | done | exact Below.refl _ _)
              · (with_reducible refine FixB.of ?_ ?_; rfl; intro w' hS; have s0 := H6i.out.below hS hbl; have s1 := H6k.out.below hS hbl; clear hS; unfold Oper.wp; go_simp; first | done | exact Below.refl _ _)
              · (with_reducible refine FixB.of ?_ ?_; rfl; intro w' hS; have s3 := Lib.hid hS; unfold Oper.wp; clear hS; go_simp; refine (l01Times_any z x _ (by assumption)).mono ?_; rintro e w1 ⟨rfl, hb⟩; exact ⟨rfl, hb⟩)
              · (with_reducible refine FixB.of ?_ ?_; rfl; intro w' hS; have s0 := H6i.out.below hS hbl; have s1 := H6k.out.below hS hbl; clear hS; unfold Oper.wp; go_simp; first | done | exact Below.refl _ _)
              · (with_reducible refine FixB.of ?_ ?_; rfl; intro w' hS; have s0 := H6i.out.below hS hbl; have s1 := H6k.out.below hS hbl; clear hS; unfold Oper.wp; go_simp; first | done | exact Below.refl _ _)
              · (with_reducible refine FixB.of ?_ ?_; rfl; intro w' hS; have s0 := H6i.out.below hS hbl; have s1 := H6k.out.below hS hbl; clear hS; unfold Oper.wp; go_simp; first | done | exact Below.refl _ _)
              · (with_reducible refine FixB.of ?_ ?_; rfl; intro w' hS; have s0 := H6i.out.below hS hbl; have s1 := H6k.out.below hS hbl; clear hS; unfold Oper.wp; go_simp; first | done | exact Below.refl _ _)
              · (with_reducible refine FixB.of ?_ ?_; rfl; intro w' hS; have s0 := H6i.out.below hS hbl; have s1 := H6k.out.below hS hbl; clear hS; unfold Oper.wp; go_simp; first | done | exact Below.refl _ _)
              · (with_reducible refine FixB.of ?_ ?_; rfl; intro w' hS; have s0 := H6i.out.below hS hbl; have s1 := H6k.out.below hS hbl; clear hS; unfold Oper.wp; go_simp; first | done | exact Below.refl _ _)
            case hQ =>
            intro wc hS _
            have HB2 := Lib.hid hS
            clear hS
            clear heq H6i H6k
            go_wp2_with fail
            go_roundw
            case rel => exact ⟨j + 1, by go_num, by omega, by rw [← Hz.out, Hs.out], Hb.out.trans (HB2.out.mono Hb.out.size), Ho.out.below HB2.out (Nat.le_refl _)⟩
            case measure => simp [intOf]; omega
          · have hji : ¬ (j : Int) < (N : Int) := by omega
            have hall : E.all (zeroQ false (gm E q)) = true := by rw [List.take_of_length_le (by rw [Hn.out]; omega)] at hg; exact hg
            have Hz : Hid (zeroS E false (gm E q) = true) := hall
            have hxx := Rd.more (Rd.below Hx.out Hb.out) Hb.out.size
            obtain ⟨x0, x1, x2, x3, x4, x5⟩ := (RdM.six hxx (k := q) (by rw [Hn.out]; exact hqN)).1
            obtain ⟨z, hzz⟩ : ∃ z, z = gm E q := ⟨_, rfl⟩
            rw [← hzz] at x0 x1 x2 x3 x4 x5
            have Hf : Hid ((E.take (q + 1)).filter (zeroS E false) = L ++ [z]) := by show _ = _; rw [filter_take (by rw [Hn.out]; exact hqN), Hz.out, ← HL.out, hzz]; simp
            have hsz := Hb.out.size
            clear hg hall hxx hzz Hz
            go_wp2_with (at_builtin; refine wpList_pushM rfl (.tmp 55) (.tmp 60) rfl w.heap.size (.slice A1 k1 c1) L rfl (Ho.out.alloc _) k1 Hk1.out wr.heap.size 1 z rfl (Blk.six (Blk.new _ _ _)) (by omega) (by simp; omega) (wr.heap.size + 1) (by simp) ?_; intro g' cap w4 ho' hgr hg' hlt'; have Hb4 := Lib.hid (((Ho.out.alloc (.cells (mc z) 31)).bel (Hb.out.alloc hsz _) hgr (Nat.le_refl _) (by simp; omega))); have Ho4 := Lib.hid ho'; clear ho' hgr hg' hlt')
            go_roundw
            case rel => exact ⟨q + 1, by go_num, by omega, Hb4.out, by rw [Hf.out]; exact Ho4.out⟩
            case measure => simp [intOf]; omega
    · obtain rfl : q = N := by omega
      have hqi : ¬ ((q : Int) < (q : Int)) := by omega
      have HR : Hid (E.filter (zeroS E false) = L) := by show _ = _; rw [HL.out, List.take_of_length_le (by rw [Hn.out]; exact Nat.le_refl _)]
      go_wp2_with fail
      go_ret
      exact ⟨_, rfl, by rw [HR.out]; exact Ho.out, Hb.out⟩

theorem zerosS_any (A : Option Addr) (N c : Nat) (E : List M) (n : Int) (r : Bool) (w : World) (hx : RdM w w.heap.size A E) (hn : E.length = N) (hm : Mnd n E) (hN : N ≤ 300) :
    Calls Try.prog 95 #[.slice A N c, .bool r] w fun e w' => ∃ v, e = .returned v ∧ OwM 31 w' w.heap.size v (E.filter (zeroS E r)) ∧ Below w.heap.size w w' := by
  cases r
  · exact zerosL_any A N c E n w hx hn hm hN
  · exact zerosR_any A N c E n w hx hn hm hN

set_option maxRecDepth 100000
set_option linter.unusedSimpArgs false

def centQ (z g : M) : Bool := decide (mul z g = mul g z)
def centS (gens : List M) (z : M) : Bool := gens.all (centQ z)
theorem centreS0_any (A A2 : Option Addr) (N c m d : Nat) (E gens : List M) (n : Int) (w : World) (hx : RdM w w.heap.size A E) (hn : E.length = N) (hm : Mnd n E) (hN : N ≤ 300)
    (hy : RdM w w.heap.size A2 gens) (hgl : gens.length = m) (hG : Pts n gens) (hm1 : 0 < m) (hmb : m < 1073741824) :
    Calls Try.prog 83 #[.slice A N c, .slice A2 m d] w fun e w' => ∃ v, e = .returned v ∧ OwM 31 w' w.heap.size v (E.filter (centS gens)) ∧ Below w.heap.size w w' := by
  have hpos : 0 < E.length := hm.pos
  obtain ⟨b, off, rfl, hbb, _⟩ := RdM.at_ hx hpos
  obtain ⟨b2, off2, rfl, hbb2, _⟩ := RdM.at_ hy (k := 0) (by omega)
  have Hx := Lib.hid hx
  have Hn := Lib.hid hn
  have Hy := Lib.hid hy
  have Hgl := Lib.hid hgl
  have HE : Hid (∀ i, i < N → Valid (gm E i) ∧ (gm E i).p = n) := fun i hi => hm.ok _ (gm_mem (by omega))
  have HG : Hid (∀ i, i < m → Valid (gm gens i) ∧ (gm gens i).p = n) := fun i hi => hG _ (gm_mem (by omega))
  clear hx hn hm hy hgl hG
  go_enter Try.func83, Try.ntmps83
  go_wp2_with fail
  go_loopw [5, 6] (fun v i wr => ∃ q : Nat, i = .int .i64 q ∧ q ≤ N ∧ Below w.heap.size w wr ∧ OwM 31 wr w.heap.size v ((E.take q).filter (centS gens))) (fun _ i _ => N - (intOf i).toNat)
  case atStart => exact ⟨0, rfl, by omega, (Below.refl _ _).alloc (Nat.le_refl _) _, by simpa using OwM.made (Nat.le_refl _)⟩
  case round =>
    obtain ⟨q, rfl, hq, hb, ho⟩ := hrel
    obtain ⟨L, hL⟩ : ∃ L, L = (E.take q).filter (centS gens) := ⟨_, rfl⟩
    rw [← hL] at ho
    have hLl : L.length ≤ 300 := by rw [hL]; have := filter_len E (centS gens) q; have := Hn.out; omega
    have HL := Lib.hid hL
    obtain ⟨A1, c1, hv, _⟩ := ho.form
    obtain ⟨k1, hk1⟩ : ∃ k1, L.length = k1 := ⟨_, rfl⟩
    rw [hk1] at hv hLl
    subst hv
    have Hk1 := Lib.hid hk1
    have Hb := Lib.hid hb
    have Ho := Lib.hid ho
    clear hb ho hL hk1
    by_cases hqN : q < N
    · have hqi : (q : Int) < (N : Int) := by omega
      go_wp2_with fail
      go_loopw [7, 8] (fun gd k wr => ∃ j : Nat, k = .int .i64 j ∧ j ≤ m ∧ gd = .bool ((gens.take j).all (centQ (gm E q))) ∧ Below w.heap.size w wr ∧ OwM 31 wr w.heap.size (.slice A1 k1 c1) L) (fun _ k _ => m - (intOf k).toNat)
      case atStart => exact ⟨0, rfl, by omega, by simp, Hb.out, Ho.out⟩
      case round =>
        clear Hb Ho
        obtain ⟨j, rfl, hj, rfl, hb, ho⟩ := hrel
        have Hb := Lib.hid hb
        have Ho := Lib.hid ho
        clear hb ho
        by_cases hjN : j < m
        · have hji : (j : Int) < (m : Int) := by omega
          have hs := all_take (Q := centQ (gm E q)) (by rw [Hgl.out]; exact hjN)
          cases hg : (gens.take j).all (centQ (gm E q))
          · rw [hg, Bool.false_and] at hs
            have Hs := Lib.hid hs
            clear hs hg
            go_wp2_with fail
            refine wp_region_sameX [] rfl (by kernel_rfl) (by kernel_rfl) [7] (by kernel_rfl) (fun w' => Below wr.heap.size wr w') _
              [.bool false, .bool false, undef, undef, undef, undef, undef, undef, undef, undef, undef, undef, undef, undef, undef, undef, undef, undef, undef, undef, undef, .bool false, .bool false]
              (by simp only [putAll, List.setIfInBounds_toArray, List.set_cons_succ, List.set_cons_zero]; rfl) [(7, .bool false)] rfl _
              (by simp only [setAll, List.setIfInBounds_toArray, List.set_cons_succ, List.set_cons_zero]; rfl) (by kernel_rfl) (fun w' w'' hS hb => hS.trans (hb.mono hS.size)) (Below.refl _ _).drew ?hop ?hQ
            case hop =>
              refine ⟨?_, ?_, ?_, ?_, ?_, ?_, ?_, ?_, ?_, ?_, ?_, ?_, ?_, ?_, ?_, ?_, ?_, ?_, ?_, ?_, ?_, ?_, ?_, trivial⟩
              · (refine FixX.of (by first | rfl | kernel_rfl | (simp [Region.wanted, yielded]; done)) ?_; intro w' hS; clear hS; unfold Oper.wp; go_simp; first | done | exact Below.refl _ _ | exact ⟨rfl, Below.refl _ _⟩ | exact ⟨rfl, (fun t ht => by injection ht with ht; subst ht; rfl), Below.refl _ _⟩)
              · (refine FixX.of (by first | rfl | kernel_rfl | (simp [Region.wanted, yielded]; done)) ?_; intro w' hS; clear hS; unfold Oper.wp; go_simp; first | done | exact Below.refl _ _ | exact ⟨rfl, Below.refl _ _⟩ | exact ⟨rfl, (fun t ht => by injection ht with ht; subst ht; rfl), Below.refl _ _⟩)
              · exact FixX.off (by first | rfl | kernel_rfl | (simp [Region.wanted, yielded]; done)) (fun t ht => by injection ht with ht; subst ht; rfl)
              · exact FixX.off (by first | rfl | kernel_rfl | (simp [Region.wanted, yielded]; done)) (fun t ht => by injection ht with ht; subst ht; rfl)
              · exact FixX.off (by first | rfl | kernel_rfl | (simp [Region.wanted, yielded]; done)) (fun t ht => by injection ht with ht; subst ht; rfl)
              · exact FixX.off (by first | rfl | kernel_rfl | (simp [Region.wanted, yielded]; done)) (fun t ht => by injection ht with ht; subst ht; rfl)
              · exact FixX.off (by first | rfl | kernel_rfl | (simp [Region.wanted, yielded]; done)) (fun t ht => by injection ht with ht; subst ht; rfl)
              · exact FixX.off (by first | rfl | kernel_rfl | (simp [Region.wanted, yielded]; done)) (fun t ht => by injection ht with ht; subst ht; rfl)
              · exact FixX.off (by first | rfl | kernel_rfl | (simp [Region.wanted, yielded]; done)) (fun t ht => by injection ht with ht; subst ht; rfl)
              · exact FixX.off (by first | rfl | kernel_rfl | (simp [Region.wanted, yielded]; done)) (fun t ht => by injection ht with ht; subst ht; rfl)
              · exact FixX.off (by first | rfl | kernel_rfl | (simp [Region.wanted, yielded]; done)) (fun t ht => by injection ht with ht; subst ht; rfl)
              · exact FixX.off (by first | rfl | kernel_rfl | (simp [Region.wanted, yielded]; done)) (fun t ht => by injection ht with ht; subst ht; rfl)
              · exact FixX.off (by first | rfl | kernel_rfl | (simp [Region.wanted, yielded]; done)) (fun t ht => by injection ht with ht; subst ht; rfl)
              · exact FixX.off (by first | rfl | kernel_rfl | (simp [Region.wanted, yielded]; done)) (fun t ht => by injection ht with ht; subst ht; rfl)
              · exact FixX.off (by first | rfl | kernel_rfl | (simp [Region.wanted, yielded]; done)) (fun t ht => by injection ht with ht; subst ht; rfl)
              · exact FixX.off (by first | rfl | kernel_rfl | (simp [Region.wanted, yielded]; done)) (fun t ht => by injection ht with ht; subst ht; rfl)
              · exact FixX.off (by first | rfl | kernel_rfl | (simp [Region.wanted, yielded]; done)) (fun t ht => by injection ht with ht; subst ht; rfl)
              · exact FixX.off (by first | rfl | kernel_rfl | (simp [Region.wanted, yielded]; done)) (fun t ht => by injection ht with ht; subst ht; rfl)
              · exact FixX.off (by first | rfl | kernel_rfl | (simp [Region.wanted, yielded]; done)) (fun t ht => by injection ht with ht; subst ht; rfl)
              · exact FixX.off (by first | rfl | kernel_rfl | (simp [Region.wanted, yielded]; done)) (fun t ht => by injection ht with ht; subst ht; rfl)
              · exact FixX.off (by first | rfl | kernel_rfl | (simp [Region.wanted, yielded]; done)) (fun t ht => by injection ht with ht; subst ht; rfl)
              · (refine FixX.of (by first | rfl | kernel_rfl | (simp [Region.wanted, yielded]; done)) ?_; intro w' hS; clear hS; unfold Oper.wp; go_simp; first | done | exact Below.refl _ _ | exact ⟨rfl, Below.refl _ _⟩ | exact ⟨rfl, (fun t ht => by injection ht with ht; subst ht; rfl), Below.refl _ _⟩)
              · (refine FixX.of (by first | rfl | kernel_rfl | (simp [Region.wanted, yielded]; done)) ?_; intro w' hS; clear hS; unfold Oper.wp; go_simp; first | done | exact Below.refl _ _ | exact ⟨rfl, Below.refl _ _⟩ | exact ⟨rfl, (fun t ht => by injection ht with ht; subst ht; rfl), Below.refl _ _⟩)
            case hQ =>
            intro wc hS
            have HB2 := Lib.hid hS
            clear hS
            go_wp2_with fail
            go_roundw
            case rel => exact ⟨j + 1, by go_num, by omega, by rw [Hs.out], Hb.out.trans (HB2.out.mono Hb.out.size), Ho.out.below HB2.out (Nat.le_refl _)⟩
            case measure => simp [intOf]; omega
          · rw [hg, Bool.true_and] at hs
            have H6i := Lib.hid (RdM.six (Rd.more (Rd.below Hx.out Hb.out) Hb.out.size) (k := q) (by rw [Hn.out]; exact hqN)).1
            have H6k := Lib.hid (RdM.six (Rd.more (Rd.below Hy.out Hb.out) Hb.out.size) (k := j) (by rw [Hgl.out]; exact hjN)).1
            have hvi := (HE.out q hqN).1
            have hvk := (HG.out j hjN).1
            have hbl := H6i.out.lt
            have hbl2 := H6k.out.lt
            obtain ⟨z, hz⟩ : ∃ z, z = gm E q := ⟨_, rfl⟩
            obtain ⟨x, hxk⟩ : ∃ x, x = gm gens j := ⟨_, rfl⟩
            rw [← hz] at H6i hvi hs
            rw [← hxk] at H6k hvk hs
            have Hz := Lib.hid hz
            have heq := eqMap_run (mul z x) (mul x z)
            obtain ⟨t, ht⟩ : ∃ t, t = decide (mul z x = mul x z) := ⟨_, rfl⟩
            rw [← ht] at heq
            have hsd : (gens.take (j + 1)).all (centQ z) = t := by rw [hs, ht]; rfl
            have Hs := Lib.hid hsd
            clear hg hs ht hsd hz hxk
            go_wp2_with fail
            refine wp_region_sameX [] rfl (by kernel_rfl) (by kernel_rfl) [7] (by kernel_rfl) (fun w' => Below wr.heap.size wr w') _
              [.bool true, .bool true, .slice (some ⟨b, off, none⟩) N c, I q, .pointer (some ⟨b, off + q * 6, none⟩), .agg (mc z), .slice (some ⟨b2, off2, none⟩) m d, I j, .pointer (some ⟨b2, off2 + j * 6, none⟩), .agg (mc x), .agg (mc (mul z x)), .slice (some ⟨b2, off2, none⟩) m d, I j, .pointer (some ⟨b2, off2 + j * 6, none⟩), .agg (mc x), .slice (some ⟨b, off, none⟩) N c, I q, .pointer (some ⟨b, off + q * 6, none⟩), .agg (mc z), .agg (mc (mul x z)), .bool t, .bool t, .bool t]
              (by simp only [putAll, List.setIfInBounds_toArray, List.set_cons_succ, List.set_cons_zero]; rfl) [(7, .bool true)] rfl _
              (by simp only [setAll, List.setIfInBounds_toArray, List.set_cons_succ, List.set_cons_zero]; rfl) (by kernel_rfl) (fun w' w'' hS hb => hS.trans (hb.mono hS.size)) (Below.refl _ _).drew ?hop ?hQ
            case hop =>
              refine ⟨?_, ?_, ?_, ?_, ?_, ?_, ?_, ?_, ?_, ?_, ?_, ?_, ?_, ?_, ?_, ?_, ?_, ?_, ?_, ?_, ?_, ?_, ?_, trivial⟩
              · (refine FixX.of (by first | rfl | kernel_rfl | (simp [Region.wanted, yielded]; done)) ?_; intro w' hS; have s0 := H6i.out.below hS hbl; have s1 := H6k.out.below hS hbl2; clear hS; unfold Oper.wp; go_simp; first | done | exact Below.refl _ _ | exact ⟨rfl, Below.refl _ _⟩ | exact ⟨rfl, (fun t ht => by injection ht with ht; subst ht; rfl), Below.refl _ _⟩)
              · (refine FixX.of (by first | rfl | kernel_rfl | (simp [Region.wanted, yielded]; done)) ?_; intro w' hS; have s0 := H6i.out.below hS hbl; have s1 := H6k.out.below hS hbl2; clear hS; unfold Oper.wp; go_simp; first | done | exact Below.refl _ _ | exact ⟨rfl, Below.refl _ _⟩ | exact ⟨rfl, (fun t ht => by injection ht with ht; subst ht; rfl), Below.refl _ _⟩)
              · (refine FixX.of (by first | rfl | kernel_rfl | (simp [Region.wanted, yielded]; done)) ?_; intro w' hS; have s0 := H6i.out.below hS hbl; have s1 := H6k.out.below hS hbl2; clear hS; unfold Oper.wp; go_simp; first | done | exact Below.refl _ _ | exact ⟨rfl, Below.refl _ _⟩ | exact ⟨rfl, (fun t ht => by injection ht with ht; subst ht; rfl), Below.refl _ _⟩)
              · (refine FixX.of (by first | rfl | kernel_rfl | (simp [Region.wanted, yielded]; done)) ?_; intro w' hS; have s0 := H6i.out.below hS hbl; have s1 := H6k.out.below hS hbl2; clear hS; unfold Oper.wp; go_simp; first | done | exact Below.refl _ _ | exact ⟨rfl, Below.refl _ _⟩ | exact ⟨rfl, (fun t ht => by injection ht with ht; subst ht; rfl), Below.refl _ _⟩)
              · (refine FixX.of (by first | rfl | kernel_rfl | (simp [Region.wanted, yielded]; done)) ?_; intro w' hS; have s0 := H6i.out.below hS hbl; have s1 := H6k.out.below hS hbl2; clear hS; unfold Oper.wp; go_simp; first | done | exact Below.refl _ _ | exact ⟨rfl, Below.refl _ _⟩ | exact ⟨rfl, (fun t ht => by injection ht with ht; subst ht; rfl), Below.refl _ _⟩)
              · (refine FixX.of (by first | rfl | kernel_rfl | (simp [Region.wanted, yielded]; done)) ?_; intro w' hS; have s0 := H6i.out.below hS hbl; have s1 := H6k.out.below hS hbl2; clear hS; unfold Oper.wp; go_simp; first | done | exact Below.refl _ _ | exact ⟨rfl, Below.refl _ _⟩ | exact ⟨rfl, (fun t ht => by injection ht with ht; subst ht; rfl), Below.refl _ _⟩)
              · (refine FixX.of (by first | rfl | kernel_rfl | (simp [Region.wanted, yielded]; done)) ?_; intro w' hS; have s0 := H6i.out.below hS hbl; have s1 := H6k.out.below hS hbl2; clear hS; unfold Oper.wp; go_simp; first | done | exact Below.refl _ _ | exact ⟨rfl, Below.refl _ _⟩ | exact ⟨rfl, (fun t ht => by injection ht with ht; subst ht; rfl), Below.refl _ _⟩)
              · (refine FixX.of (by first | rfl | kernel_rfl | (simp [Region.wanted, yielded]; done)) ?_; intro w' hS; have s0 := H6i.out.below hS hbl; have s1 := H6k.out.below hS hbl2; clear hS; unfold Oper.wp; go_simp; first | done | exact Below.refl _ _ | exact ⟨rfl, Below.refl _ _⟩ | exact ⟨rfl, (fun t ht => by injection ht with ht; subst ht; rfl), Below.refl _ _⟩)
              · (refine FixX.of (by first | rfl | kernel_rfl | (simp [Region.wanted, yielded]; done)) ?_; intro w' hS; have s0 := H6i.out.below hS hbl; have s1 := H6k.out.below hS hbl2; clear hS; unfold Oper.wp; go_simp; first | done | exact Below.refl _ _ | exact ⟨rfl, Below.refl _ _⟩ | exact ⟨rfl, (fun t ht => by injection ht with ht; subst ht; rfl), Below.refl _ _⟩)
              · (refine FixX.of (by first | rfl | kernel_rfl | (simp [Region.wanted, yielded]; done)) ?_; intro w' hS; have s0 := H6i.out.below hS hbl; have s1 := H6k.out.below hS hbl2; clear hS; unfold Oper.wp; go_simp; first | done | exact Below.refl _ _ | exact ⟨rfl, Below.refl _ _⟩ | exact ⟨rfl, (fun t ht => by injection ht with ht; subst ht; rfl), Below.refl _ _⟩)
              · (refine FixX.of (by first | rfl | kernel_rfl | (simp [Region.wanted, yielded]; done)) ?_; intro w' hS; have s3 := Lib.hid hS; unfold Oper.wp; clear hS; go_simp; refine (l01Times_any z x _ (by assumption)).mono ?_; rintro e w1 ⟨rfl, hb⟩; first | exact hb | exact ⟨rfl, hb⟩ | exact ⟨rfl, (fun t ht => by injection ht with ht; subst ht; rfl), hb⟩)
              · (refine FixX.of (by first | rfl | kernel_rfl | (simp [Region.wanted, yielded]; done)) ?_; intro w' hS; have s0 := H6i.out.below hS hbl; have s1 := H6k.out.below hS hbl2; clear hS; unfold Oper.wp; go_simp; first | done | exact Below.refl _ _ | exact ⟨rfl, Below.refl _ _⟩ | exact ⟨rfl, (fun t ht => by injection ht with ht; subst ht; rfl), Below.refl _ _⟩)
              · (refine FixX.of (by first | rfl | kernel_rfl | (simp [Region.wanted, yielded]; done)) ?_; intro w' hS; have s0 := H6i.out.below hS hbl; have s1 := H6k.out.below hS hbl2; clear hS; unfold Oper.wp; go_simp; first | done | exact Below.refl _ _ | exact ⟨rfl, Below.refl _ _⟩ | exact ⟨rfl, (fun t ht => by injection ht with ht; subst ht; rfl), Below.refl _ _⟩)
              · (refine FixX.of (by first | rfl | kernel_rfl | (simp [Region.wanted, yielded]; done)) ?_; intro w' hS; have s0 := H6i.out.below hS hbl; have s1 := H6k.out.below hS hbl2; clear hS; unfold Oper.wp; go_simp; first | done | exact Below.refl _ _ | exact ⟨rfl, Below.refl _ _⟩ | exact ⟨rfl, (fun t ht => by injection ht with ht; subst ht; rfl), Below.refl _ _⟩)
              · (refine FixX.of (by first | rfl | kernel_rfl | (simp [Region.wanted, yielded]; done)) ?_; intro w' hS; have s0 := H6i.out.below hS hbl; have s1 := H6k.out.below hS hbl2; clear hS; unfold Oper.wp; go_simp; first | done | exact Below.refl _ _ | exact ⟨rfl, Below.refl _ _⟩ | exact ⟨rfl, (fun t ht => by injection ht with ht; subst ht; rfl), Below.refl _ _⟩)
              · (refine FixX.of (by first | rfl | kernel_rfl | (simp [Region.wanted, yielded]; done)) ?_; intro w' hS; have s0 := H6i.out.below hS hbl; have s1 := H6k.out.below hS hbl2; clear hS; unfold Oper.wp; go_simp; first | done | exact Below.refl _ _ | exact ⟨rfl, Below.refl _ _⟩ | exact ⟨rfl, (fun t ht => by injection ht with ht; subst ht; rfl), Below.refl _ _⟩)
              · (refine FixX.of (by first | rfl | kernel_rfl | (simp [Region.wanted, yielded]; done)) ?_; intro w' hS; have s0 := H6i.out.below hS hbl; have s1 := H6k.out.below hS hbl2; clear hS; unfold Oper.wp; go_simp; first | done | exact Below.refl _ _ | exact ⟨rfl, Below.refl _ _⟩ | exact ⟨rfl, (fun t ht => by injection ht with ht; subst ht; rfl), Below.refl _ _⟩)
              · (refine FixX.of (by first | rfl | kernel_rfl | (simp [Region.wanted, yielded]; done)) ?_; intro w' hS; have s0 := H6i.out.below hS hbl; have s1 := H6k.out.below hS hbl2; clear hS; unfold Oper.wp; go_simp; first | done | exact Below.refl _ _ | exact ⟨rfl, Below.refl _ _⟩ | exact ⟨rfl, (fun t ht => by injection ht with ht; subst ht; rfl), Below.refl _ _⟩)
              · (refine FixX.of (by first | rfl | kernel_rfl | (simp [Region.wanted, yielded]; done)) ?_; intro w' hS; have s0 := H6i.out.below hS hbl; have s1 := H6k.out.below hS hbl2; clear hS; unfold Oper.wp; go_simp; first | done | exact Below.refl _ _ | exact ⟨rfl, Below.refl _ _⟩ | exact ⟨rfl, (fun t ht => by injection ht with ht; subst ht; rfl), Below.refl _ _⟩)
              · (refine FixX.of (by first | rfl | kernel_rfl | (simp [Region.wanted, yielded]; done)) ?_; intro w' hS; have s3 := Lib.hid hS; unfold Oper.wp; clear hS; go_simp; refine (l01Times_any x z _ (by assumption)).mono ?_; rintro e w1 ⟨rfl, hb⟩; first | exact hb | exact ⟨rfl, hb⟩ | exact ⟨rfl, (fun t ht => by injection ht with ht; subst ht; rfl), hb⟩)
              · (refine FixX.of (by first | rfl | kernel_rfl | (simp [Region.wanted, yielded]; done)) ?_; intro w' hS; have s0 := H6i.out.below hS hbl; have s1 := H6k.out.below hS hbl2; clear hS; unfold Oper.wp; go_simp; first | done | exact Below.refl _ _ | exact ⟨rfl, Below.refl _ _⟩ | exact ⟨rfl, (fun t ht => by injection ht with ht; subst ht; rfl), Below.refl _ _⟩)
              · (refine FixX.of (by first | rfl | kernel_rfl | (simp [Region.wanted, yielded]; done)) ?_; intro w' hS; have s0 := H6i.out.below hS hbl; have s1 := H6k.out.below hS hbl2; clear hS; unfold Oper.wp; go_simp; first | done | exact Below.refl _ _ | exact ⟨rfl, Below.refl _ _⟩ | exact ⟨rfl, (fun t ht => by injection ht with ht; subst ht; rfl), Below.refl _ _⟩)
              · (refine FixX.of (by first | rfl | kernel_rfl | (simp [Region.wanted, yielded]; done)) ?_; intro w' hS; have s0 := H6i.out.below hS hbl; have s1 := H6k.out.below hS hbl2; clear hS; unfold Oper.wp; go_simp; first | done | exact Below.refl _ _ | exact ⟨rfl, Below.refl _ _⟩ | exact ⟨rfl, (fun t ht => by injection ht with ht; subst ht; rfl), Below.refl _ _⟩)
            case hQ =>
            intro wc hS
            have HB2 := Lib.hid hS
            clear hS
            clear heq H6i H6k
            go_wp2_with fail
            go_roundw
            case rel => exact ⟨j + 1, by go_num, by omega, by rw [← Hz.out, Hs.out], Hb.out.trans (HB2.out.mono Hb.out.size), Ho.out.below HB2.out (Nat.le_refl _)⟩
            case measure => simp [intOf]; omega
        · have hji : ¬ (j : Int) < (m : Int) := by omega
          have htk : gens.take j = gens := List.take_of_length_le (by rw [Hgl.out]; omega)
          rw [htk]
          cases hg : gens.all (centQ (gm E q))
          · have Hz : Hid (centS gens (gm E q) = false) := hg
            have Hf : Hid ((E.take (q + 1)).filter (centS gens) = L) := by show _ = _; rw [filter_take (by rw [Hn.out]; exact hqN), Hz.out, ← HL.out]; simp
            clear hg htk
            go_wp2_with fail
            go_roundw
            case rel => exact ⟨q + 1, by go_num, by omega, Hb.out, by rw [Hf.out]; exact Ho.out⟩
            case measure => simp [intOf]; omega
          · have Hz : Hid (centS gens (gm E q) = true) := hg
            have hxx := Rd.more (Rd.below Hx.out Hb.out) Hb.out.size
            obtain ⟨x0, x1, x2, x3, x4, x5⟩ := (RdM.six hxx (k := q) (by rw [Hn.out]; exact hqN)).1
            obtain ⟨z, hzz⟩ : ∃ z, z = gm E q := ⟨_, rfl⟩
            rw [← hzz] at x0 x1 x2 x3 x4 x5
            have Hf : Hid ((E.take (q + 1)).filter (centS gens) = L ++ [z]) := by show _ = _; rw [filter_take (by rw [Hn.out]; exact hqN), Hz.out, ← HL.out, hzz]; simp
            have hsz := Hb.out.size
            clear hg hxx hzz Hz htk
            go_wp2_with (at_builtin; refine wpList_pushM rfl (.tmp 45) (.tmp 50) rfl w.heap.size (.slice A1 k1 c1) L rfl (Ho.out.alloc _) k1 Hk1.out wr.heap.size 1 z rfl (Blk.six (Blk.new _ _ _)) (by omega) (by simp; omega) (wr.heap.size + 1) (by simp) ?_; intro g' cap w4 ho' hgr hg' hlt'; have Hb4 := Lib.hid (((Ho.out.alloc (.cells (mc z) 31)).bel (Hb.out.alloc hsz _) hgr (Nat.le_refl _) (by simp; omega))); have Ho4 := Lib.hid ho'; clear ho' hgr hg' hlt')
            go_roundw
            case rel => exact ⟨q + 1, by go_num, by omega, Hb4.out, by rw [Hf.out]; exact Ho4.out⟩
            case measure => simp [intOf]; omega
    · obtain rfl : q = N := by omega
      have hqi : ¬ ((q : Int) < (q : Int)) := by omega
      have HR : Hid (E.filter (centS gens) = L) := by show _ = _; rw [HL.out, List.take_of_length_le (by rw [Hn.out]; exact Nat.le_refl _)]
      go_wp2_with fail
      go_ret
      exact ⟨_, rfl, by rw [HR.out]; exact Ho.out, Hb.out⟩

set_option maxRecDepth 100000
set_option linter.unusedSimpArgs false

/-! ### the same lists -/
section
variable {ms xs E : List M} {ps : Met}
theorem pc_eq {n : Int} {E : List M} (hm : Mnd n E) {i k j l : Nat} (hi : i < E.length) (hk : k < E.length) (hj : j < E.length) (hl : l < E.length) : (pc E i k == pc E j l) = decide (mul (gm E i) (gm E k) = mul (gm E j) (gm E l)) := by
  rw [Bool.eq_iff_iff, beq_iff_eq, decide_eq_true_eq, ← gm_pc hm hi hk, ← gm_pc hm hj hl]
  exact ⟨fun h => by rw [h], fun h => gm_inj hm.asc.nodup (pc_lt hm hi hk) (pc_lt hm hj hl) h⟩
theorem pc_at {n : Int} {E : List M} (hm : Mnd n E) {i k z : Nat} (hi : i < E.length) (hk : k < E.length) (hz : z < E.length) : (pc E i k == z) = decide (mul (gm E i) (gm E k) = gm E z) := by
  rw [Bool.eq_iff_iff, beq_iff_eq, decide_eq_true_eq, ← gm_pc hm hi hk]
  exact ⟨fun h => by rw [h], fun h => gm_inj hm.asc.nodup (pc_lt hm hi hk) hz h⟩
theorem all_range {E : List M} {P : M → Bool} {p : Nat → Bool} (h : ∀ i, i < E.length → p i = P (gm E i)) : (List.range E.length).all p = E.all P := by
  conv => rhs; rw [← range_gm' E]
  rw [List.all_map]
  rw [Bool.eq_iff_iff, List.all_eq_true, List.all_eq_true]
  exact ⟨fun h2 i hi => by rw [Function.comp_apply, ← h i (List.mem_range.1 hi)]; exact h2 i hi, fun h2 i hi => by rw [h i (List.mem_range.1 hi)]; exact h2 i hi⟩
theorem centB_eq (hE : El ms xs E ps) {i : Nat} (hi : i < E.length) : centB E i = centS ms (gm E i) := by
  unfold centB
  rw [all_range (P := fun x => decide (mul (gm E i) x = mul x (gm E i))) fun k hk => pc_eq hE.mnd hi hk hk hi]
  rw [Bool.eq_iff_iff]
  unfold centS centQ
  simp only [List.all_eq_true, decide_eq_true_eq]
  exact central_iff hE.mnd hE.mem hE.G (gm_mem hi)
theorem sideB_eq (hE : El ms xs E ps) (r : Bool) {z : Nat} (hz : z < E.length) : sideB E r z = zeroS E r (gm E z) := by
  unfold sideB zeroS
  refine all_range fun i hi => ?_
  unfold sideP zeroQ
  cases r
  · exact pc_at hE.mnd hz hi hz
  · exact pc_at hE.mnd hi hz hz
theorem that_cent (h : elC ms [] = 0) : thatR centB ms = (elR ms []).filter (centS ms) := by
  obtain ⟨E, ps, hE⟩ := elC_el h
  unfold thatR
  rw [hE.r, thatE_congr (q := fun i => centS ms (gm E i)) fun i hi => centB_eq hE hi, thatE_filter]
theorem that_idem : thatR idemB ms = (elR ms []).filter isIdem := thatE_filter _ _
theorem that_side (h : elC ms [] = 0) (r : Bool) : thatR (fun E => sideB E r) ms = (elR ms []).filter (zeroS (elR ms []) r) := by
  obtain ⟨E, ps, hE⟩ := elC_el h
  unfold thatR
  rw [hE.r, thatE_congr (q := fun i => zeroS E r (gm E i)) fun i hi => sideB_eq hE r hi, thatE_filter]
theorem that_zero (h : elC ms [] = 0) : thatR zeroB ms = (elR ms []).filter fun z => zeroS (elR ms []) true z && zeroS (elR ms []) false z := by
  obtain ⟨E, ps, hE⟩ := elC_el h
  unfold thatR
  rw [hE.r, thatE_congr (q := fun i => zeroS E true (gm E i) && zeroS E false (gm E i)) fun i hi => by unfold zeroB; rw [sideB_eq hE true hi, sideB_eq hE false hi], thatE_filter (fun z => zeroS E true z && zeroS E false z)]
theorem that_bad {p : List M → Nat → Bool} (h : elC ms [] ≠ 0) : thatR p ms = [] := by unfold thatR; rw [elR_bad h]; rfl
theorem that_len (p : List M → Nat → Bool) (ms : List M) : (thatR p ms).length ≤ 300 := by
  unfold thatR thatE
  rw [List.length_map]
  have h1 := List.length_filter_le (p (elR ms [])) (List.range (elR ms []).length)
  rw [List.length_range] at h1
  by_cases h : elC ms [] = 0
  · obtain ⟨E, ps, hE⟩ := elC_el h
    have := hE.len
    rw [hE.r] at h1 ⊢
    omega
  · rw [elR_bad h] at h1 ⊢
    simp at h1 ⊢
theorem filter_all_len {P : M → Bool} : ∀ {E : List M}, decide ((E.filter P).length = E.length) = E.all P
  | [] => rfl
  | x :: E => by
    have ih := filter_all_len (P := P) (E := E)
    rw [List.filter_cons, List.all_cons]
    cases hp : P x
    · have := List.length_filter_le P E
      simp; omega
    · simp only [if_true, List.length_cons, Bool.true_and, ← ih]
      rw [Bool.eq_iff_iff]; simp
theorem com_eq (hE : El ms xs E ps) : comB E = decide ((E.filter (centS ms)).length = E.length) := by
  unfold comB
  rw [filter_all_len]
  exact all_range fun i hi => centB_eq hE hi
end

theorem SpecCentre_any (A : Option Addr) (n c : Nat) (ms : List M) (w : World) (hx : RdM w w.heap.size A ms) (hn : ms.length = n) (hb : n < 1073741824) :
    Calls Try.prog 53 #[.slice A n c] w (RetS (thatR centB ms) (elC ms []) w) := by
  have Hx := Lib.hid hx
  have Hn := Lib.hid hn
  clear hx hn
  by_cases hc : elC ms [] = 0
  · obtain ⟨E, ps, hE⟩ := elC_el hc
    have hR := that_cent hc
    rw [hE.r] at hR
    have hlen := hE.len
    have hp1 : 0 < n := by have := hE.n1; have := Hn.out; omega
    have HR := Lib.hid hR
    have HE := Lib.hid hE
    have Hc := Lib.hid hc
    clear hE hc hR
    go_enter Try.func53, Try.ntmps53
    go_wp2_with fail
    refine (l02Elements_any A none n c 0 0 ms [] _ Hx.out Rd.nil_ Hn.out rfl hb (by decide)).mono ?_
    rintro e w1 ⟨A', c', rfl, hr, hb1⟩
    rw [HE.out.r] at hr ⊢
    rw [Hc.out]
    have Hr := Lib.hid hr
    have Hb1 := Lib.hid hb1
    obtain ⟨N, hN⟩ : ∃ N, E.length = N := ⟨_, rfl⟩
    rw [hN] at hlen ⊢
    have HN := Lib.hid hN
    clear hr hb1 hN
    go_wp2_with fail
    refine (centreS0_any A' A N c' n c E ms (gm ms 0).p w1 Hr.out HN.out HE.out.mnd hlen (Rd.more (Rd.below Hx.out Hb1.out) Hb1.out.size) Hn.out HE.out.G hp1 hb).mono ?_
    rintro e w2 ⟨v, rfl, ho, hb2⟩
    obtain ⟨A2, c2, rfl, hr2⟩ := ho.form
    rw [← HR.out] at hr2 ⊢
    have Hr2 := Lib.hid hr2
    have Hb2 := Lib.hid (Hb1.out.trans (hb2.mono Hb1.out.size))
    clear ho hr2 hb2
    go_wp2
    go_ret2
    exact .mk A2 c2 (by rw [Hc.out] <;> rfl) Hr2.out Hb2.out
  · have HR := Lib.hid (that_bad (p := centB) hc)
    have hne : (elC ms [] != 0) = true := by simpa using hc
    clear hc
    go_enter Try.func53, Try.ntmps53
    go_wp2_with fail
    refine (l02Elements_any A none n c 0 0 ms [] _ Hx.out Rd.nil_ Hn.out rfl hb (by decide)).mono ?_
    rintro e w1 ⟨A', c', rfl, hr, hb1⟩
    clear hr
    go_wp2
    go_ret2
    exact .mk none 0 (by rw [HR.out] <;> rfl) (by rw [HR.out]; exact Rd.nil_) hb1

theorem SpecSide_any (A : Option Addr) (n c : Nat) (ms : List M) (r : Bool) (w : World) (hx : RdM w w.heap.size A ms) (hn : ms.length = n) (hb : n < 1073741824) :
    Calls Try.prog 55 #[.slice A n c, .bool r] w (RetS (thatR (fun E => sideB E r) ms) (elC ms []) w) := by
  have Hx := Lib.hid hx
  have Hn := Lib.hid hn
  clear hx hn
  by_cases hc : elC ms [] = 0
  · obtain ⟨E, ps, hE⟩ := elC_el hc
    have hR := that_side hc r
    rw [hE.r] at hR
    have hlen := hE.len
    have HR := Lib.hid hR
    have HE := Lib.hid hE
    have Hc := Lib.hid hc
    obtain ⟨R, hRR⟩ : ∃ R, R = thatR (fun E => sideB E r) ms := ⟨_, rfl⟩
    rw [← hRR] at HR ⊢
    clear hE hc hR hRR
    go_enter Try.func55, Try.ntmps55
    go_wp2_with fail
    refine (l02Elements_any A none n c 0 0 ms [] _ Hx.out Rd.nil_ Hn.out rfl hb (by decide)).mono ?_
    rintro e w1 ⟨A', c', rfl, hr, hb1⟩
    rw [HE.out.r] at hr ⊢
    rw [Hc.out]
    have Hr := Lib.hid hr
    have Hb1 := Lib.hid hb1
    obtain ⟨N, hN⟩ : ∃ N, E.length = N := ⟨_, rfl⟩
    rw [hN] at hlen ⊢
    have HN := Lib.hid hN
    clear hr hb1 hN
    go_wp2_with fail
    refine (zerosS_any A' N c' E (gm ms 0).p r w1 Hr.out HN.out HE.out.mnd hlen).mono ?_
    rintro e w2 ⟨v, rfl, ho, hb2⟩
    obtain ⟨A2, c2, rfl, hr2⟩ := ho.form
    rw [← HR.out] at hr2 ⊢
    have Hr2 := Lib.hid hr2
    have Hb2 := Lib.hid (Hb1.out.trans (hb2.mono Hb1.out.size))
    clear ho hr2 hb2
    go_wp2
    go_ret2
    exact .mk A2 c2 (by rw [Hc.out] <;> rfl) Hr2.out Hb2.out
  · have HR := Lib.hid (that_bad (p := fun E => sideB E r) hc)
    have hne : (elC ms [] != 0) = true := by simpa using hc
    obtain ⟨R, hRR⟩ : ∃ R, R = thatR (fun E => sideB E r) ms := ⟨_, rfl⟩
    rw [← hRR] at HR ⊢
    clear hc hRR
    go_enter Try.func55, Try.ntmps55
    go_wp2_with fail
    refine (l02Elements_any A none n c 0 0 ms [] _ Hx.out Rd.nil_ Hn.out rfl hb (by decide)).mono ?_
    rintro e w1 ⟨A', c', rfl, hr, hb1⟩
    clear hr
    go_wp2
    go_ret2
    exact .mk none 0 (by rw [HR.out] <;> rfl) (by rw [HR.out]; exact Rd.nil_) hb1

theorem SpecCom_any (A : Option Addr) (n c : Nat) (ms : List M) (w : World) (hx : RdM w w.heap.size A ms) (hn : ms.length = n) (hb : n < 1073741824) :
    Calls Try.prog 33 #[.slice A n c] w fun e w' => e = .returned (.tuple #[.bool (comR ms), I (elC ms [])]) ∧ Below w.heap.size w w' := by
  have Hx := Lib.hid hx
  have Hn := Lib.hid hn
  clear hx hn
  by_cases hc : elC ms [] = 0
  · obtain ⟨E, ps, hE⟩ := elC_el hc
    have hR : comR ms = decide ((E.filter (centS ms)).length = E.length) := by unfold comR; rw [decide_eq_true hc, Bool.true_and, hE.r, com_eq hE]
    have hlen := hE.len
    have hp1 : 0 < n := by have := hE.n1; have := Hn.out; omega
    have HR := Lib.hid hR
    have HE := Lib.hid hE
    have Hc := Lib.hid hc
    clear hE hc hR
    go_enter Try.func33, Try.ntmps33
    go_wp2_with fail
    refine (l02Elements_any A none n c 0 0 ms [] _ Hx.out Rd.nil_ Hn.out rfl hb (by decide)).mono ?_
    rintro e w1 ⟨A', c', rfl, hr, hb1⟩
    rw [HE.out.r] at hr ⊢
    rw [Hc.out]
    have Hr := Lib.hid hr
    have Hb1 := Lib.hid hb1
    obtain ⟨N, hN⟩ : ∃ N, E.length = N := ⟨_, rfl⟩
    rw [hN] at hlen HR ⊢
    have HN := Lib.hid hN
    clear hr hb1 hN
    go_wp2_with fail
    refine (centreS0_any A' A N c' n c E ms (gm ms 0).p w1 Hr.out HN.out HE.out.mnd hlen (Rd.more (Rd.below Hx.out Hb1.out) Hb1.out.size) Hn.out HE.out.G hp1 hb).mono ?_
    rintro e w2 ⟨v, rfl, ho, hb2⟩
    obtain ⟨A2, c2, rfl, hr2⟩ := ho.form
    obtain ⟨k, hk⟩ : ∃ k, k = (E.filter (centS ms)).length := ⟨_, rfl⟩
    rw [← hk] at HR ⊢
    have Hb2 := Lib.hid (Hb1.out.trans (hb2.mono Hb1.out.size))
    clear ho hr2 hb2 hk
    by_cases hkN : k = N
    · have hR2 : comR ms = true := by rw [HR.out]; exact decide_eq_true hkN
      have HR2 := Lib.hid hR2
      have hki : ((k : Int) == (N : Int)) = true := by simp [hkN]
      clear hkN hR2
      go_wp2
      go_ret2
      exact ⟨by rw [HR2.out, Hc.out] <;> rfl, Hb2.out⟩
    · have hR2 : comR ms = false := by rw [HR.out]; exact decide_eq_false hkN
      have HR2 := Lib.hid hR2
      have hki : ((k : Int) == (N : Int)) = false := by simp; omega
      clear hkN hR2
      go_wp2
      go_ret2
      exact ⟨by rw [HR2.out, Hc.out] <;> rfl, Hb2.out⟩
  · have hR : comR ms = false := by unfold comR; rw [decide_eq_false hc]; rfl
    have HR := Lib.hid hR
    have hne : (elC ms [] != 0) = true := by simpa using hc
    clear hc hR
    go_enter Try.func33, Try.ntmps33
    go_wp2_with fail
    refine (l02Elements_any A none n c 0 0 ms [] _ Hx.out Rd.nil_ Hn.out rfl hb (by decide)).mono ?_
    rintro e w1 ⟨A', c', rfl, hr, hb1⟩
    clear hr
    go_wp2
    go_ret2
    exact ⟨by rw [HR.out] <;> rfl, hb1⟩
end Go.Proofs.Ytknknljkmkfmoaa
