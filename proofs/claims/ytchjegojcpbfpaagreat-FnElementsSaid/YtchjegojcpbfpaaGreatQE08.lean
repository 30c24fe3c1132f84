/- Contracts of the reference's zeros of one side and of its centre; the lists are as each theorem states. Contracts of the reference's centre, and of CentreOf, IdempotentsOf, SideZeros and IsCommutative of the reference; the lists are as each theorem states. Contracts of CentreOf, IdempotentsOf, SideZeros, IsCommutative and ZeroOf of the reference, and that they are those of the program; the lists are as each theorem states. Contracts of IdempotentsOf, ZeroOf and IsRegularIn of the reference; the lists are as each theorem states. Contracts of the functions that keep the points of a map that are such; the maps are valid where the theorems say so. Contracts of the points that are kept, for each test; the maps are valid where the theorems say so. Contracts of sets of points as digits in base 2, and of the cyclic points; the maps are valid where the theorems say so. The kit's own contracts of the library's functions at this translation, laid by the kit's tools; no conditions beyond those that each theorem states. Contracts of the library's functions on lists of numbers: less, index, contains; no conditions beyond those that each theorem states. Lists without repetitions, in plain words; no conditions. Contract of the function that strikes neighbours that are alike; the list is a row of the call's own. Contracts of images of sets and of ranks; the maps are valid where the theorems say so. Contracts of ranks, inverses and renumbered maps; the maps are valid where the theorems say so. -/
import Derived.Test.YtchjegojcpbfpaaGreatQE07
import Derived.Test.YtchjegojcpbfpaaGreatProg
import Derived.Lib.SliceRun
import Derived.IntWalk
import Derived.Deep.QuietTactic
import Derived.BigQuiet
import Derived.Laws.BitsLemmas
import Derived.Shelf.Small.Bits
import Derived.Shelf.Strconv.Itoa0
import Derived.RegionTactic
import Derived.ChangeAlike
import Derived.Deep.RegionWith
set_option linter.unusedSimpArgs false
set_option linter.unusedVariables false
namespace Go.Proofs.YtchjegojcpbfpaaGreat
open Go.RowKit
set_option maxRecDepth 100000
set_option linter.unusedSimpArgs false
def zeroQ (r : Bool) (z x : M) : Bool := decide ((if r then mul x z else mul z x) = z)
def zeroS (E : List M) (r : Bool) (z : M) : Bool := E.all (zeroQ r z)
theorem all_take {E : List M} {Q : M → Bool} {j : Nat} (h : j < E.length) : (E.take (j + 1)).all Q = ((E.take j).all Q && Q (gm E j)) := by
  rw [take_gm h, List.all_append]; simp
theorem all_not {E : List M} {Q : M → Bool} {j : Nat} (h : (E.take j).all Q = false) : E.all Q = false := by
  rw [Bool.eq_false_iff] at h ⊢
  intro h2
  refine h ?_
  rw [List.all_eq_true] at h2 ⊢
  exact fun x hx => h2 x (List.mem_of_mem_take hx)
theorem zerosR_any (A : Option Addr) (N c : Nat) (E : List M) (n : Int) (w : World) (hx : RdM w w.heap.size A E) (hn : E.length = N) (hm : Mnd n E) (hN : N ≤ 300) :
    Calls Tryz.prog 56 #[.slice A N c, .bool true] w fun e w' => ∃ v, e = .returned v ∧ OwM 31 w' w.heap.size v (E.filter (zeroS E true)) ∧ Below w.heap.size w w' := by
  have hpos : 0 < E.length := hm.pos
  obtain ⟨b, off, rfl, hbb, _⟩ := RdM.at_ hx hpos
  have Hx := Lib.hid hx
  have Hn := Lib.hid hn
  have HE : Hid (∀ i, i < N → Valid (gm E i)) := fun i hi => (hm.ok _ (gm_mem (by omega))).1
  have Hm := Lib.hid hm
  clear hx hn hm
  go_enter Tryz.func56, Tryz.ntmps56
  go_wp2_with fail
  go_loopw [5, 6] (fun v i wr => ∃ q : Nat, i = .int .i64 q ∧ q ≤ N ∧ Below w.heap.size w wr ∧ OwM 31 wr w.heap.size v ((E.take q).filter (zeroS E true))) (fun _ i _ => N - (intOf i).toNat)
  case atStart => exact ⟨0, rfl, by omega, (Below.refl _ _).alloc (Nat.le_refl _) _, by simpa using OwM.made (Nat.le_refl _)⟩
  case round =>
    obtain ⟨q, rfl, hq, hb, ho⟩ := hrel
    obtain ⟨L, hL⟩ : ∃ L, L = (E.take q).filter (zeroS E true) := ⟨_, rfl⟩
    rw [← hL] at ho
    have hLl : L.length ≤ 300 := by rw [hL]; have := filter_len E (zeroS E true) q; have := Hn.out; omega
    have HL := Lib.hid hL
    obtain ⟨A1, c1, hv, _⟩ := ho.form
    obtain ⟨k1, hk1⟩ : ∃ k1, L.length = k1 := ⟨_, rfl⟩
    rw [hk1] at hv hLl
    subst hv
    have Hk1 := Lib.hid hk1
    have Hb := Lib.hid hb
    have Ho := Lib.hid ho
    clear hb ho hL hk1
    by_cases hqN : q < N
    · have hqi : (q : Int) < (N : Int) := by omega
      go_wp2_with fail
      go_loopw [7, 8] (fun gd k wr => ∃ j : Nat, k = .int .i64 j ∧ j ≤ N ∧ gd = .bool ((E.take j).all (zeroQ true (gm E q))) ∧ Below w.heap.size w wr ∧ OwM 31 wr w.heap.size (.slice A1 k1 c1) L) (fun _ k _ => N - (intOf k).toNat)
      case atStart => exact ⟨0, rfl, by omega, by simp, Hb.out, Ho.out⟩
      case round =>
        clear Hb Ho
        obtain ⟨j, rfl, hj, rfl, hb, ho⟩ := hrel
        have Hb := Lib.hid hb
        have Ho := Lib.hid ho
        clear hb ho
        cases hg : (E.take j).all (zeroQ true (gm E q))
        · have Hz : Hid (zeroS E true (gm E q) = false) := all_not hg
          have Hf : Hid ((E.take (q + 1)).filter (zeroS E true) = L) := by show _ = _; rw [filter_take (by rw [Hn.out]; exact hqN), Hz.out, ← HL.out]; simp
          clear hg
          by_cases hjN : j < N
          · have hji : (j : Int) < (N : Int) := by omega
            go_wp2_with fail
            go_roundw
            case rel => exact ⟨q + 1, by go_num, by omega, Hb.out, by rw [Hf.out]; exact Ho.out⟩
            case measure => simp [intOf]; omega
          · have hji : ¬ (j : Int) < (N : Int) := by omega
            go_wp2_with fail
            go_roundw
            case rel => exact ⟨q + 1, by go_num, by omega, Hb.out, by rw [Hf.out]; exact Ho.out⟩
            case measure => simp [intOf]; omega
        · by_cases hjN : j < N
          · have hji : (j : Int) < (N : Int) := by omega
            have hs := all_take (Q := zeroQ true (gm E q)) (by rw [Hn.out]; exact hjN)
            rw [hg, Bool.true_and] at hs
            have hxx := Rd.more (Rd.below Hx.out Hb.out) Hb.out.size
            have H6i := Lib.hid (RdM.six hxx (k := q) (by rw [Hn.out]; exact hqN)).1
            have H6k := Lib.hid (RdM.six hxx (k := j) (by rw [Hn.out]; exact hjN)).1
            have hvi := HE.out q hqN
            have hvk := HE.out j hjN
            have hbl := H6i.out.lt
            obtain ⟨z, hz⟩ : ∃ z, z = gm E q := ⟨_, rfl⟩
            obtain ⟨x, hxk⟩ : ∃ x, x = gm E j := ⟨_, rfl⟩
            rw [← hz] at H6i hvi hs
            rw [← hxk] at H6k hvk hs
            have Hz := Lib.hid hz
            have heq := eqMap_run (mul x z) z
            obtain ⟨d, hd⟩ : ∃ d, d = decide (mul x z = z) := ⟨_, rfl⟩
            rw [← hd] at heq
            have hsd : (E.take (j + 1)).all (zeroQ true z) = d := by rw [hs, hd]; rfl
            have Hs := Lib.hid hsd
            clear hg hs hd hsd hz hxk hxx
            go_wp2_with fail
            refine wp_region_same [] rfl (by kernel_rfl) (by kernel_rfl) (by kernel_rfl) (fun w' => Below wr.heap.size wr w') _
              [.slice (some ⟨b, off, none⟩) N c, I j, .pointer (some ⟨b, off + j * 6, none⟩), .agg (mc x), .slice (some ⟨b, off, none⟩) N c, I q, .pointer (some ⟨b, off + q * 6, none⟩), .agg (mc z), .agg (mc (mul x z)), .slice (some ⟨b, off, none⟩) N c, I q, .pointer (some ⟨b, off + q * 6, none⟩), .agg (mc z), .bool d, .bool d]
              (by simp only [putAll, List.setIfInBounds_toArray, List.set_cons_succ, List.set_cons_zero]; rfl) (Below.refl _ _).drew ?hop ?hQ
            case hop =>
              refine FixBL.toL (fun w' w'' hS hb => hS.trans (hb.mono hS.size)) _ _ ?_
              refine ⟨.inr ?_, .inr ?_, .inr ?_, .inr ?_, .inr ?_, .inr ?_, .inr ?_, .inr ?_, .inr ?_, .inr ?_, .inr ?_, .inr ?_, .inr ?_, .inr ?_, .inr ?_, trivial⟩
              · (with_reducible refine FixB.of ?_ ?_; rfl; intro w' hS; have s0 := H6i.out.below hS hbl; have s1 := H6k.out.below hS hbl; clear hS; unfold Oper.wp; go_simp; first | done | exact Below.refl _ _)
              · (with_reducible refine FixB.of ?_ ?_; rfl; intro w' hS; have s0 := H6i.out.below hS hbl; have s1 := H6k.out.below hS hbl; clear hS; unfold Oper.wp; go_simp; first | done | exact Below.refl _ _)
              · (with_reducible refine FixB.of ?_ ?_; rfl; intro w' hS; have s0 := H6i.out.below hS hbl; have s1 := H6k.out.below hS hbl; clear hS; unfold Oper.wp; go_simp; first | done | exact Below.refl _ _)
              · (with_reducible refine FixB.of ?_ ?_; rfl; intro w' hS; have s0 := H6i.out.below hS hbl; have s1 := H6k.out.below hS hbl; clear hS; unfold Oper.wp; go_simp; first | done | exact Below.refl _ _)
              · (with_reducible refine FixB.of ?_ ?_; rfl; intro w' hS; have s0 := H6i.out.below hS hbl; have s1 := H6k.out.below hS hbl; clear hS; unfold Oper.wp; go_simp; first | done | exact Below.refl _ _)
              · (with_reducible refine FixB.of ?_ ?_; rfl; intro w' hS; have s0 := H6i.out.below hS hbl; have s1 := H6k.out.below hS hbl; clear hS; unfold Oper.wp; go_simp; first | done | exact Below.refl _ _)
              · (with_reducible refine FixB.of ?_ ?_; rfl; intro w' hS; have s0 := H6i.out.below hS hbl; have s1 := H6k.out.below hS hbl; clear hS; unfold Oper.wp; go_simp; first | done | exact Below.refl _ _)
              · (with_reducible refine FixB.of ?_ ?_; rfl; intro w' hS; have s0 := H6i.out.below hS hbl; have s1 := H6k.out.below hS hbl; clear hS; unfold Oper.wp; go_simp; first | done | exact Below.refl _ _)
              · (with_reducible refine FixB.of ?_ ?_; rfl; intro w' hS; have s3 := Lib.hid hS; unfold Oper.wp; clear hS; go_simp; refine (l01Times_any x z _ (by assumption)).mono ?_; rintro e w1 ⟨rfl, hb⟩; exact ⟨rfl, hb⟩)
              · (with_reducible refine FixB.of ?_ ?_; rfl; intro w' hS; have s0 := H6i.out.below hS hbl; have s1 := H6k.out.below hS hbl; clear hS; unfold Oper.wp; go_simp; first | done | exact Below.refl _ _)
              · (with_reducible refine FixB.of ?_ ?_; rfl; intro w' hS; have s0 := H6i.out.below hS hbl; have s1 := H6k.out.below hS hbl; clear hS; unfold Oper.wp; go_simp; first | done | exact Below.refl _ _)
              · (with_reducible refine FixB.of ?_ ?_; rfl; intro w' hS; have s0 := H6i.out.below hS hbl; have s1 := H6k.out.below hS hbl; clear hS; unfold Oper.wp; go_simp; first | done | exact Below.refl _ _)
              · (with_reducible refine FixB.of ?_ ?_; rfl; intro w' hS; have s0 := H6i.out.below hS hbl; have s1 := H6k.out.below hS hbl; clear hS; unfold Oper.wp; go_simp; first | done | exact Below.refl _ _)
              · (with_reducible refine FixB.of ?_ ?_; rfl; intro w' hS; have s0 := H6i.out.below hS hbl; have s1 := H6k.out.below hS hbl; clear hS; unfold Oper.wp; go_simp; first | done | exact Below.refl _ _)
              · (with_reducible refine FixB.of ?_ ?_; rfl; intro w' hS; have s0 := H6i.out.below hS hbl; have s1 := H6k.out.below hS hbl; clear hS; unfold Oper.wp; go_simp; first | done | exact Below.refl _ _)
            case hQ =>
            intro wc hS _
            have HB2 := Lib.hid hS
            clear hS
            clear heq H6i H6k
            go_wp2_with fail
            go_roundw
            case rel => exact ⟨j + 1, by go_num, by omega, by rw [← Hz.out, Hs.out], Hb.out.trans (HB2.out.mono Hb.out.size), Ho.out.below HB2.out (Nat.le_refl _)⟩
            case measure => simp [intOf]; omega
          · have hji : ¬ (j : Int) < (N : Int) := by omega
            have hall : E.all (zeroQ true (gm E q)) = true := by rw [List.take_of_length_le (by rw [Hn.out]; omega)] at hg; exact hg
            have Hz : Hid (zeroS E true (gm E q) = true) := hall
            have hxx := Rd.more (Rd.below Hx.out Hb.out) Hb.out.size
            obtain ⟨x0, x1, x2, x3, x4, x5⟩ := (RdM.six hxx (k := q) (by rw [Hn.out]; exact hqN)).1
            obtain ⟨z, hzz⟩ : ∃ z, z = gm E q := ⟨_, rfl⟩
            rw [← hzz] at x0 x1 x2 x3 x4 x5
            have Hf : Hid ((E.take (q + 1)).filter (zeroS E true) = L ++ [z]) := by show _ = _; rw [filter_take (by rw [Hn.out]; exact hqN), Hz.out, ← HL.out, hzz]; simp
            have hsz := Hb.out.size
            clear hg hall hxx hzz Hz
            go_wp2_with (at_builtin; refine wpList_pushM rfl (.tmp 55) (.tmp 60) rfl w.heap.size (.slice A1 k1 c1) L rfl (Ho.out.alloc _) k1 Hk1.out wr.heap.size 1 z rfl (Blk.six (Blk.new _ _ _)) (by omega) (by simp; omega) (wr.heap.size + 1) (by simp) ?_; intro g' cap w4 ho' hgr hg' hlt'; have Hb4 := Lib.hid (((Ho.out.alloc (.cells (mc z) 31)).bel (Hb.out.alloc hsz _) hgr (Nat.le_refl _) (by simp; omega))); have Ho4 := Lib.hid ho'; clear ho' hgr hg' hlt')
            go_roundw
            case rel => exact ⟨q + 1, by go_num, by omega, Hb4.out, by rw [Hf.out]; exact Ho4.out⟩
            case measure => simp [intOf]; omega
    · obtain rfl : q = N := by omega
      have hqi : ¬ ((q : Int) < (q : Int)) := by omega
      have HR : Hid (E.filter (zeroS E true) = L) := by show _ = _; rw [HL.out, List.take_of_length_le (by rw [Hn.out]; exact Nat.le_refl _)]
      go_wp2_with fail
      go_ret
      exact ⟨_, rfl, by rw [HR.out]; exact Ho.out, Hb.out⟩
theorem zerosL_any (A : Option Addr) (N c : Nat) (E : List M) (n : Int) (w : World) (hx : RdM w w.heap.size A E) (hn : E.length = N) (hm : Mnd n E) (hN : N ≤ 300) :
    Calls Tryz.prog 56 #[.slice A N c, .bool false] w fun e w' => ∃ v, e = .returned v ∧ OwM 31 w' w.heap.size v (E.filter (zeroS E false)) ∧ Below w.heap.size w w' := by
  have hpos : 0 < E.length := hm.pos
  obtain ⟨b, off, rfl, hbb, _⟩ := RdM.at_ hx hpos
  have Hx := Lib.hid hx
  have Hn := Lib.hid hn
  have HE : Hid (∀ i, i < N → Valid (gm E i)) := fun i hi => (hm.ok _ (gm_mem (by omega))).1
  have Hm := Lib.hid hm
  clear hx hn hm
  go_enter Tryz.func56, Tryz.ntmps56
  go_wp2_with fail
  go_loopw [5, 6] (fun v i wr => ∃ q : Nat, i = .int .i64 q ∧ q ≤ N ∧ Below w.heap.size w wr ∧ OwM 31 wr w.heap.size v ((E.take q).filter (zeroS E false))) (fun _ i _ => N - (intOf i).toNat)
  case atStart => exact ⟨0, rfl, by omega, (Below.refl _ _).alloc (Nat.le_refl _) _, by simpa using OwM.made (Nat.le_refl _)⟩
  case round =>
    obtain ⟨q, rfl, hq, hb, ho⟩ := hrel
    obtain ⟨L, hL⟩ : ∃ L, L = (E.take q).filter (zeroS E false) := ⟨_, rfl⟩
    rw [← hL] at ho
    have hLl : L.length ≤ 300 := by rw [hL]; have := filter_len E (zeroS E false) q; have := Hn.out; omega
    have HL := Lib.hid hL
    obtain ⟨A1, c1, hv, _⟩ := ho.form
    obtain ⟨k1, hk1⟩ : ∃ k1, L.length = k1 := ⟨_, rfl⟩
    rw [hk1] at hv hLl
    subst hv
    have Hk1 := Lib.hid hk1
    have Hb := Lib.hid hb
    have Ho := Lib.hid ho
    clear hb ho hL hk1
    by_cases hqN : q < N
    · have hqi : (q : Int) < (N : Int) := by omega
      go_wp2_with fail
      go_loopw [7, 8] (fun gd k wr => ∃ j : Nat, k = .int .i64 j ∧ j ≤ N ∧ gd = .bool ((E.take j).all (zeroQ false (gm E q))) ∧ Below w.heap.size w wr ∧ OwM 31 wr w.heap.size (.slice A1 k1 c1) L) (fun _ k _ => N - (intOf k).toNat)
      case atStart => exact ⟨0, rfl, by omega, by simp, Hb.out, Ho.out⟩
      case round =>
        clear Hb Ho
        obtain ⟨j, rfl, hj, rfl, hb, ho⟩ := hrel
        have Hb := Lib.hid hb
        have Ho := Lib.hid ho
        clear hb ho
        cases hg : (E.take j).all (zeroQ false (gm E q))
        · have Hz : Hid (zeroS E false (gm E q) = false) := all_not hg
          have Hf : Hid ((E.take (q + 1)).filter (zeroS E false) = L) := by show _ = _; rw [filter_take (by rw [Hn.out]; exact hqN), Hz.out, ← HL.out]; simp
          clear hg
          by_cases hjN : j < N
          · have hji : (j : Int) < (N : Int) := by omega
            go_wp2_with fail
            go_roundw
            case rel => exact ⟨q + 1, by go_num, by omega, Hb.out, by rw [Hf.out]; exact Ho.out⟩
            case measure => simp [intOf]; omega
          · have hji : ¬ (j : Int) < (N : Int) := by omega
            go_wp2_with fail
            go_roundw
            case rel => exact ⟨q + 1, by go_num, by omega, Hb.out, by rw [Hf.out]; exact Ho.out⟩
            case measure => simp [intOf]; omega
        · by_cases hjN : j < N
          · have hji : (j : Int) < (N : Int) := by omega
            have hs := all_take (Q := zeroQ false (gm E q)) (by rw [Hn.out]; exact hjN)
            rw [hg, Bool.true_and] at hs
            have hxx := Rd.more (Rd.below Hx.out Hb.out) Hb.out.size
            have H6i := Lib.hid (RdM.six hxx (k := q) (by rw [Hn.out]; exact hqN)).1
            have H6k := Lib.hid (RdM.six hxx (k := j) (by rw [Hn.out]; exact hjN)).1
            have hvi := HE.out q hqN
            have hvk := HE.out j hjN
            have hbl := H6i.out.lt
            obtain ⟨z, hz⟩ : ∃ z, z = gm E q := ⟨_, rfl⟩
            obtain ⟨x, hxk⟩ : ∃ x, x = gm E j := ⟨_, rfl⟩
            rw [← hz] at H6i hvi hs
            rw [← hxk] at H6k hvk hs
            have Hz := Lib.hid hz
            have heq := eqMap_run (mul z x) z
            obtain ⟨d, hd⟩ : ∃ d, d = decide (mul z x = z) := ⟨_, rfl⟩
            rw [← hd] at heq
            have hsd : (E.take (j + 1)).all (zeroQ false z) = d := by rw [hs, hd]; rfl
            have Hs := Lib.hid hsd
            clear hg hs hd hsd hz hxk hxx
            go_wp2_with fail
            refine wp_region_same [] rfl (by kernel_rfl) (by kernel_rfl) (by kernel_rfl) (fun w' => Below wr.heap.size wr w') _
              [.slice (some ⟨b, off, none⟩) N c, I q, .pointer (some ⟨b, off + q * 6, none⟩), .agg (mc z), .slice (some ⟨b, off, none⟩) N c, I j, .pointer (some ⟨b, off + j * 6, none⟩), .agg (mc x), .agg (mc (mul z x)), .slice (some ⟨b, off, none⟩) N c, I q, .pointer (some ⟨b, off + q * 6, none⟩), .agg (mc z), .bool d, .bool d]
              (by simp only [putAll, List.setIfInBounds_toArray, List.set_cons_succ, List.set_cons_zero]; rfl) (Below.refl _ _).drew ?hop ?hQ
            case hop =>
              refine FixBL.toL (fun w' w'' hS hb => hS.trans (hb.mono hS.size)) _ _ ?_
              refine ⟨.inr ?_, .inr ?_, .inr ?_, .inr ?_, .inr ?_, .inr ?_, .inr ?_, .inr ?_, .inr ?_, .inr ?_, .inr ?_, .inr ?_, .inr ?_, .inr ?_, .inr ?_, trivial⟩
              · (with_reducible refine FixB.of ?_ ?_; rfl; intro w' hS; have s0 := H6i.out.below hS hbl; have s1 := H6k.out.below hS hbl; clear hS; unfold Oper.wp; go_simp; first | done | exact Below.refl _ _)
              · (with_reducible refine FixB.of ?_ ?_; rfl; intro w' hS; have s0 := H6i.out.below hS hbl; have s1 := H6k.out.below hS hbl; clear hS; unfold Oper.wp; go_simp; first | done | exact Below.refl _ _)
              · (with_reducible refine FixB.of ?_ ?_; rfl; intro w' hS; have s0 := H6i.out.below hS hbl; have s1 := H6k.out.below hS hbl; clear hS; unfold Oper.wp; go_simp; first | done | exact Below.refl _ _)
              · (with_reducible refine FixB.of ?_ ?_; rfl; intro w' hS; have s0 := H6i.out.below hS hbl; have s1 := H6k.out.below hS hbl; clear hS; unfold Oper.wp; go_simp; first | done | exact Below.refl _ _)
              · (with_reducible refine FixB.of ?_ ?_; rfl; intro w' hS; have s0 := H6i.out.below hS hbl; have s1 := H6k.out.below hS hbl; clear hS; unfold Oper.wp; go_simp; first | done | exact Below.refl _ _)
              · (with_reducible refine FixB.of ?_ ?_; rfl; intro w' hS; have s0 := H6i.out.below hS hbl; have s1 := H6k.out.below hS hbl; clear hS; unfold Oper.wp; go_simp; first | done | exact Below.refl _ _)
              · (with_reducible refine FixB.of ?_ ?_; rfl; intro w' hS; have s0 := H6i.out.below hS hbl; have s1 := H6k.out.below hS hbl; clear hS; unfold Oper.wp; go_simp; first | done | exact Below.refl _ _)
              · (with_reducible refine FixB.of ?_ ?_; rfl; intro w' hS; have s0 := H6i.out.below hS hbl; have s1 := H6k.out.below hS hbl; clear hS; unfold Oper.wp; go_simp; first | done | exact Below.refl _ _)
              · (with_reducible refine FixB.of ?_ ?_; rfl; intro w' hS; have s3 := Lib.hid hS; unfold Oper.wp; clear hS; go_simp; refine (l01Times_any z x _ (by assumption)).mono ?_; rintro e w1 ⟨rfl, hb⟩; exact ⟨rfl, hb⟩)
              · (with_reducible refine FixB.of ?_ ?_; rfl; intro w' hS; have s0 := H6i.out.below hS hbl; have s1 := H6k.out.below hS hbl; clear hS; unfold Oper.wp; go_simp; first | done | exact Below.refl _ _)
              · (with_reducible refine FixB.of ?_ ?_; rfl; intro w' hS; have s0 := H6i.out.below hS hbl; have s1 := H6k.out.below hS hbl; clear hS; unfold Oper.wp; go_simp; first | done | exact Below.refl _ _)
              · (with_reducible refine FixB.of ?_ ?_; rfl; intro w' hS; have s0 := H6i.out.below hS hbl; have s1 := H6k.out.below hS hbl; clear hS; unfold Oper.wp; go_simp; first | done | exact Below.refl _ _)
              · (with_reducible refine FixB.of ?_ ?_; rfl; intro w' hS; have s0 := H6i.out.below hS hbl; have s1 := H6k.out.below hS hbl; clear hS; unfold Oper.wp; go_simp; first | done | exact Below.refl _ _)
              · (with_reducible refine FixB.of ?_ ?_; rfl; intro w' hS; have s0 := H6i.out.below hS hbl; have s1 := H6k.out.below hS hbl; clear hS; unfold Oper.wp; go_simp; first | done | exact Below.refl _ _)
              · (with_reducible refine FixB.of ?_ ?_; rfl; intro w' hS; have s0 := H6i.out.below hS hbl; have s1 := H6k.out.below hS hbl; clear hS; unfold Oper.wp; go_simp; first | done | exact Below.refl _ _)
            case hQ =>
            intro wc hS _
            have HB2 := Lib.hid hS
            clear hS
            clear heq H6i H6k
            go_wp2_with fail
            go_roundw
            case rel => exact ⟨j + 1, by go_num, by omega, by rw [← Hz.out, Hs.out], Hb.out.trans (HB2.out.mono Hb.out.size), Ho.out.below HB2.out (Nat.le_refl _)⟩
            case measure => simp [intOf]; omega
          · have hji : ¬ (j : Int) < (N : Int) := by omega
            have hall : E.all (zeroQ false (gm E q)) = true := by rw [List.take_of_length_le (by rw [Hn.out]; omega)] at hg; exact hg
            have Hz : Hid (zeroS E false (gm E q) = true) := hall
            have hxx := Rd.more (Rd.below Hx.out Hb.out) Hb.out.size
            obtain ⟨x0, x1, x2, x3, x4, x5⟩ := (RdM.six hxx (k := q) (by rw [Hn.out]; exact hqN)).1
            obtain ⟨z, hzz⟩ : ∃ z, z = gm E q := ⟨_, rfl⟩
            rw [← hzz] at x0 x1 x2 x3 x4 x5
            have Hf : Hid ((E.take (q + 1)).filter (zeroS E false) = L ++ [z]) := by show _ = _; rw [filter_take (by rw [Hn.out]; exact hqN), Hz.out, ← HL.out, hzz]; simp
            have hsz := Hb.out.size
            clear hg hall hxx hzz Hz
            go_wp2_with (at_builtin; refine wpList_pushM rfl (.tmp 55) (.tmp 60) rfl w.heap.size (.slice A1 k1 c1) L rfl (Ho.out.alloc _) k1 Hk1.out wr.heap.size 1 z rfl (Blk.six (Blk.new _ _ _)) (by omega) (by simp; omega) (wr.heap.size + 1) (by simp) ?_; intro g' cap w4 ho' hgr hg' hlt'; have Hb4 := Lib.hid (((Ho.out.alloc (.cells (mc z) 31)).bel (Hb.out.alloc hsz _) hgr (Nat.le_refl _) (by simp; omega))); have Ho4 := Lib.hid ho'; clear ho' hgr hg' hlt')
            go_roundw
            case rel => exact ⟨q + 1, by go_num, by omega, Hb4.out, by rw [Hf.out]; exact Ho4.out⟩
            case measure => simp [intOf]; omega
    · obtain rfl : q = N := by omega
      have hqi : ¬ ((q : Int) < (q : Int)) := by omega
      have HR : Hid (E.filter (zeroS E false) = L) := by show _ = _; rw [HL.out, List.take_of_length_le (by rw [Hn.out]; exact Nat.le_refl _)]
      go_wp2_with fail
      go_ret
      exact ⟨_, rfl, by rw [HR.out]; exact Ho.out, Hb.out⟩
theorem zerosS_any (A : Option Addr) (N c : Nat) (E : List M) (n : Int) (r : Bool) (w : World) (hx : RdM w w.heap.size A E) (hn : E.length = N) (hm : Mnd n E) (hN : N ≤ 300) :
    Calls Tryz.prog 56 #[.slice A N c, .bool r] w fun e w' => ∃ v, e = .returned v ∧ OwM 31 w' w.heap.size v (E.filter (zeroS E r)) ∧ Below w.heap.size w w' := by
  cases r
  · exact zerosL_any A N c E n w hx hn hm hN
  · exact zerosR_any A N c E n w hx hn hm hN
set_option maxRecDepth 100000
set_option linter.unusedSimpArgs false
def centQ (z g : M) : Bool := decide (mul z g = mul g z)
def centS (gens : List M) (z : M) : Bool := gens.all (centQ z)
theorem centreS0_any (A A2 : Option Addr) (N c m d : Nat) (E gens : List M) (n : Int) (w : World) (hx : RdM w w.heap.size A E) (hn : E.length = N) (hm : Mnd n E) (hN : N ≤ 300)
    (hy : RdM w w.heap.size A2 gens) (hgl : gens.length = m) (hG : Pts n gens) (hm1 : 0 < m) (hmb : m < 1073741824) :
    Calls Tryz.prog 64 #[.slice A N c, .slice A2 m d] w fun e w' => ∃ v, e = .returned v ∧ OwM 31 w' w.heap.size v (E.filter (centS gens)) ∧ Below w.heap.size w w' := by
  have hpos : 0 < E.length := hm.pos
  obtain ⟨b, off, rfl, hbb, _⟩ := RdM.at_ hx hpos
  obtain ⟨b2, off2, rfl, hbb2, _⟩ := RdM.at_ hy (k := 0) (by omega)
  have Hx := Lib.hid hx
  have Hn := Lib.hid hn
  have Hy := Lib.hid hy
  have Hgl := Lib.hid hgl
  have HE : Hid (∀ i, i < N → Valid (gm E i) ∧ (gm E i).p = n) := fun i hi => hm.ok _ (gm_mem (by omega))
  have HG : Hid (∀ i, i < m → Valid (gm gens i) ∧ (gm gens i).p = n) := fun i hi => hG _ (gm_mem (by omega))
  clear hx hn hm hy hgl hG
  go_enter Tryz.func64, Tryz.ntmps64
  go_wp2_with fail
  go_loopw [5, 6] (fun v i wr => ∃ q : Nat, i = .int .i64 q ∧ q ≤ N ∧ Below w.heap.size w wr ∧ OwM 31 wr w.heap.size v ((E.take q).filter (centS gens))) (fun _ i _ => N - (intOf i).toNat)
  case atStart => exact ⟨0, rfl, by omega, (Below.refl _ _).alloc (Nat.le_refl _) _, by simpa using OwM.made (Nat.le_refl _)⟩
  case round =>
    obtain ⟨q, rfl, hq, hb, ho⟩ := hrel
    obtain ⟨L, hL⟩ : ∃ L, L = (E.take q).filter (centS gens) := ⟨_, rfl⟩
    rw [← hL] at ho
    have hLl : L.length ≤ 300 := by rw [hL]; have := filter_len E (centS gens) q; have := Hn.out; omega
    have HL := Lib.hid hL
    obtain ⟨A1, c1, hv, _⟩ := ho.form
    obtain ⟨k1, hk1⟩ : ∃ k1, L.length = k1 := ⟨_, rfl⟩
    rw [hk1] at hv hLl
    subst hv
    have Hk1 := Lib.hid hk1
    have Hb := Lib.hid hb
    have Ho := Lib.hid ho
    clear hb ho hL hk1
    by_cases hqN : q < N
    · have hqi : (q : Int) < (N : Int) := by omega
      go_wp2_with fail
      go_loopw [7, 8] (fun gd k wr => ∃ j : Nat, k = .int .i64 j ∧ j ≤ m ∧ gd = .bool ((gens.take j).all (centQ (gm E q))) ∧ Below w.heap.size w wr ∧ OwM 31 wr w.heap.size (.slice A1 k1 c1) L) (fun _ k _ => m - (intOf k).toNat)
      case atStart => exact ⟨0, rfl, by omega, by simp, Hb.out, Ho.out⟩
      case round =>
        clear Hb Ho
        obtain ⟨j, rfl, hj, rfl, hb, ho⟩ := hrel
        have Hb := Lib.hid hb
        have Ho := Lib.hid ho
        clear hb ho
        by_cases hjN : j < m
        · have hji : (j : Int) < (m : Int) := by omega
          have hs := all_take (Q := centQ (gm E q)) (by rw [Hgl.out]; exact hjN)
          cases hg : (gens.take j).all (centQ (gm E q))
          · rw [hg, Bool.false_and] at hs
            have Hs := Lib.hid hs
            clear hs hg
            go_wp2_with fail
            refine wp_region_sameX [] rfl (by kernel_rfl) (by kernel_rfl) [7] (by kernel_rfl) (fun w' => Below wr.heap.size wr w') _
              [.bool false, .bool false, undef, undef, undef, undef, undef, undef, undef, undef, undef, undef, undef, undef, undef, undef, undef, undef, undef, undef, undef, .bool false, .bool false]
              (by simp only [putAll, List.setIfInBounds_toArray, List.set_cons_succ, List.set_cons_zero]; rfl) [(7, .bool false)] rfl _
              (by simp only [setAll, List.setIfInBounds_toArray, List.set_cons_succ, List.set_cons_zero]; rfl) (by kernel_rfl) (fun w' w'' hS hb => hS.trans (hb.mono hS.size)) (Below.refl _ _).drew ?hop ?hQ
            case hop =>
              refine ⟨?_, ?_, ?_, ?_, ?_, ?_, ?_, ?_, ?_, ?_, ?_, ?_, ?_, ?_, ?_, ?_, ?_, ?_, ?_, ?_, ?_, ?_, ?_, trivial⟩
              · (refine FixX.of (by first | rfl | kernel_rfl | (simp [Region.wanted, yielded]; done)) ?_; intro w' hS; clear hS; unfold Oper.wp; go_simp; first | done | exact Below.refl _ _ | exact ⟨rfl, Below.refl _ _⟩ | exact ⟨rfl, (fun t ht => by injection ht with ht; subst ht; rfl), Below.refl _ _⟩)
              · (refine FixX.of (by first | rfl | kernel_rfl | (simp [Region.wanted, yielded]; done)) ?_; intro w' hS; clear hS; unfold Oper.wp; go_simp; first | done | exact Below.refl _ _ | exact ⟨rfl, Below.refl _ _⟩ | exact ⟨rfl, (fun t ht => by injection ht with ht; subst ht; rfl), Below.refl _ _⟩)
              · exact FixX.off (by first | rfl | kernel_rfl | (simp [Region.wanted, yielded]; done)) (fun t ht => by injection ht with ht; subst ht; rfl)
              · exact FixX.off (by first | rfl | kernel_rfl | (simp [Region.wanted, yielded]; done)) (fun t ht => by injection ht with ht; subst ht; rfl)
              · exact FixX.off (by first | rfl | kernel_rfl | (simp [Region.wanted, yielded]; done)) (fun t ht => by injection ht with ht; subst ht; rfl)
              · exact FixX.off (by first | rfl | kernel_rfl | (simp [Region.wanted, yielded]; done)) (fun t ht => by injection ht with ht; subst ht; rfl)
              · exact FixX.off (by first | rfl | kernel_rfl | (simp [Region.wanted, yielded]; done)) (fun t ht => by injection ht with ht; subst ht; rfl)
              · exact FixX.off (by first | rfl | kernel_rfl | (simp [Region.wanted, yielded]; done)) (fun t ht => by injection ht with ht; subst ht; rfl)
              · exact FixX.off (by first | rfl | kernel_rfl | (simp [Region.wanted, yielded]; done)) (fun t ht => by injection ht with ht; subst ht; rfl)
              · exact FixX.off (by first | rfl | kernel_rfl | (simp [Region.wanted, yielded]; done)) (fun t ht => by injection ht with ht; subst ht; rfl)
              · exact FixX.off (by first | rfl | kernel_rfl | (simp [Region.wanted, yielded]; done)) (fun t ht => by injection ht with ht; subst ht; rfl)
              · exact FixX.off (by first | rfl | kernel_rfl | (simp [Region.wanted, yielded]; done)) (fun t ht => by injection ht with ht; subst ht; rfl)
              · exact FixX.off (by first | rfl | kernel_rfl | (simp [Region.wanted, yielded]; done)) (fun t ht => by injection ht with ht; subst ht; rfl)
              · exact FixX.off (by first | rfl | kernel_rfl | (simp [Region.wanted, yielded]; done)) (fun t ht => by injection ht with ht; subst ht; rfl)
              · exact FixX.off (by first | rfl | kernel_rfl | (simp [Region.wanted, yielded]; done)) (fun t ht => by injection ht with ht; subst ht; rfl)
              · exact FixX.off (by first | rfl | kernel_rfl | (simp [Region.wanted, yielded]; done)) (fun t ht => by injection ht with ht; subst ht; rfl)
              · exact FixX.off (by first | rfl | kernel_rfl | (simp [Region.wanted, yielded]; done)) (fun t ht => by injection ht with ht; subst ht; rfl)
              · exact FixX.off (by first | rfl | kernel_rfl | (simp [Region.wanted, yielded]; done)) (fun t ht => by injection ht with ht; subst ht; rfl)
              · exact FixX.off (by first | rfl | kernel_rfl | (simp [Region.wanted, yielded]; done)) (fun t ht => by injection ht with ht; subst ht; rfl)
              · exact FixX.off (by first | rfl | kernel_rfl | (simp [Region.wanted, yielded]; done)) (fun t ht => by injection ht with ht; subst ht; rfl)
              · exact FixX.off (by first | rfl | kernel_rfl | (simp [Region.wanted, yielded]; done)) (fun t ht => by injection ht with ht; subst ht; rfl)
              · (refine FixX.of (by first | rfl | kernel_rfl | (simp [Region.wanted, yielded]; done)) ?_; intro w' hS; clear hS; unfold Oper.wp; go_simp; first | done | exact Below.refl _ _ | exact ⟨rfl, Below.refl _ _⟩ | exact ⟨rfl, (fun t ht => by injection ht with ht; subst ht; rfl), Below.refl _ _⟩)
              · (refine FixX.of (by first | rfl | kernel_rfl | (simp [Region.wanted, yielded]; done)) ?_; intro w' hS; clear hS; unfold Oper.wp; go_simp; first | done | exact Below.refl _ _ | exact ⟨rfl, Below.refl _ _⟩ | exact ⟨rfl, (fun t ht => by injection ht with ht; subst ht; rfl), Below.refl _ _⟩)
            case hQ =>
            intro wc hS
            have HB2 := Lib.hid hS
            clear hS
            go_wp2_with fail
            go_roundw
            case rel => exact ⟨j + 1, by go_num, by omega, by rw [Hs.out], Hb.out.trans (HB2.out.mono Hb.out.size), Ho.out.below HB2.out (Nat.le_refl _)⟩
            case measure => simp [intOf]; omega
          · rw [hg, Bool.true_and] at hs
            have H6i := Lib.hid (RdM.six (Rd.more (Rd.below Hx.out Hb.out) Hb.out.size) (k := q) (by rw [Hn.out]; exact hqN)).1
            have H6k := Lib.hid (RdM.six (Rd.more (Rd.below Hy.out Hb.out) Hb.out.size) (k := j) (by rw [Hgl.out]; exact hjN)).1
            have hvi := (HE.out q hqN).1
            have hvk := (HG.out j hjN).1
            have hbl := H6i.out.lt
            have hbl2 := H6k.out.lt
            obtain ⟨z, hz⟩ : ∃ z, z = gm E q := ⟨_, rfl⟩
            obtain ⟨x, hxk⟩ : ∃ x, x = gm gens j := ⟨_, rfl⟩
            rw [← hz] at H6i hvi hs
            rw [← hxk] at H6k hvk hs
            have Hz := Lib.hid hz
            have heq := eqMap_run (mul z x) (mul x z)
            obtain ⟨t, ht⟩ : ∃ t, t = decide (mul z x = mul x z) := ⟨_, rfl⟩
            rw [← ht] at heq
            have hsd : (gens.take (j + 1)).all (centQ z) = t := by rw [hs, ht]; rfl
            have Hs := Lib.hid hsd
            clear hg hs ht hsd hz hxk
            go_wp2_with fail
            refine wp_region_sameX [] rfl (by kernel_rfl) (by kernel_rfl) [7] (by kernel_rfl) (fun w' => Below wr.heap.size wr w') _
              [.bool true, .bool true, .slice (some ⟨b, off, none⟩) N c, I q, .pointer (some ⟨b, off + q * 6, none⟩), .agg (mc z), .slice (some ⟨b2, off2, none⟩) m d, I j, .pointer (some ⟨b2, off2 + j * 6, none⟩), .agg (mc x), .agg (mc (mul z x)), .slice (some ⟨b2, off2, none⟩) m d, I j, .pointer (some ⟨b2, off2 + j * 6, none⟩), .agg (mc x), .slice (some ⟨b, off, none⟩) N c, I q, .pointer (some ⟨b, off + q * 6, none⟩), .agg (mc z), .agg (mc (mul x z)), .bool t, .bool t, .bool t]
              (by simp only [putAll, List.setIfInBounds_toArray, List.set_cons_succ, List.set_cons_zero]; rfl) [(7, .bool true)] rfl _
              (by simp only [setAll, List.setIfInBounds_toArray, List.set_cons_succ, List.set_cons_zero]; rfl) (by kernel_rfl) (fun w' w'' hS hb => hS.trans (hb.mono hS.size)) (Below.refl _ _).drew ?hop ?hQ
            case hop =>
              refine ⟨?_, ?_, ?_, ?_, ?_, ?_, ?_, ?_, ?_, ?_, ?_, ?_, ?_, ?_, ?_, ?_, ?_, ?_, ?_, ?_, ?_, ?_, ?_, trivial⟩
              · (refine FixX.of (by first | rfl | kernel_rfl | (simp [Region.wanted, yielded]; done)) ?_; intro w' hS; have s0 := H6i.out.below hS hbl; have s1 := H6k.out.below hS hbl2; clear hS; unfold Oper.wp; go_simp; first | done | exact Below.refl _ _ | exact ⟨rfl, Below.refl _ _⟩ | exact ⟨rfl, (fun t ht => by injection ht with ht; subst ht; rfl), Below.refl _ _⟩)
              · (refine FixX.of (by first | rfl | kernel_rfl | (simp [Region.wanted, yielded]; done)) ?_; intro w' hS; have s0 := H6i.out.below hS hbl; have s1 := H6k.out.below hS hbl2; clear hS; unfold Oper.wp; go_simp; first | done | exact Below.refl _ _ | exact ⟨rfl, Below.refl _ _⟩ | exact ⟨rfl, (fun t ht => by injection ht with ht; subst ht; rfl), Below.refl _ _⟩)
              · (refine FixX.of (by first | rfl | kernel_rfl | (simp [Region.wanted, yielded]; done)) ?_; intro w' hS; have s0 := H6i.out.below hS hbl; have s1 := H6k.out.below hS hbl2; clear hS; unfold Oper.wp; go_simp; first | done | exact Below.refl _ _ | exact ⟨rfl, Below.refl _ _⟩ | exact ⟨rfl, (fun t ht => by injection ht with ht; subst ht; rfl), Below.refl _ _⟩)
              · (refine FixX.of (by first | rfl | kernel_rfl | (simp [Region.wanted, yielded]; done)) ?_; intro w' hS; have s0 := H6i.out.below hS hbl; have s1 := H6k.out.below hS hbl2; clear hS; unfold Oper.wp; go_simp; first | done | exact Below.refl _ _ | exact ⟨rfl, Below.refl _ _⟩ | exact ⟨rfl, (fun t ht => by injection ht with ht; subst ht; rfl), Below.refl _ _⟩)
              · (refine FixX.of (by first | rfl | kernel_rfl | (simp [Region.wanted, yielded]; done)) ?_; intro w' hS; have s0 := H6i.out.below hS hbl; have s1 := H6k.out.below hS hbl2; clear hS; unfold Oper.wp; go_simp; first | done | exact Below.refl _ _ | exact ⟨rfl, Below.refl _ _⟩ | exact ⟨rfl, (fun t ht => by injection ht with ht; subst ht; rfl), Below.refl _ _⟩)
              · (refine FixX.of (by first | rfl | kernel_rfl | (simp [Region.wanted, yielded]; done)) ?_; intro w' hS; have s0 := H6i.out.below hS hbl; have s1 := H6k.out.below hS hbl2; clear hS; unfold Oper.wp; go_simp; first | done | exact Below.refl _ _ | exact ⟨rfl, Below.refl _ _⟩ | exact ⟨rfl, (fun t ht => by injection ht with ht; subst ht; rfl), Below.refl _ _⟩)
              · (refine FixX.of (by first | rfl | kernel_rfl | (simp [Region.wanted, yielded]; done)) ?_; intro w' hS; have s0 := H6i.out.below hS hbl; have s1 := H6k.out.below hS hbl2; clear hS; unfold Oper.wp; go_simp; first | done | exact Below.refl _ _ | exact ⟨rfl, Below.refl _ _⟩ | exact ⟨rfl, (fun t ht => by injection ht with ht; subst ht; rfl), Below.refl _ _⟩)
              · (refine FixX.of (by first | rfl | kernel_rfl | (simp [Region.wanted, yielded]; done)) ?_; intro w' hS; have s0 := H6i.out.below hS hbl; have s1 := H6k.out.below hS hbl2; clear hS; unfold Oper.wp; go_simp; first | done | exact Below.refl _ _ | exact ⟨rfl, Below.refl _ _⟩ | exact ⟨rfl, (fun t ht => by injection ht with ht; subst ht; rfl), Below.refl _ _⟩)
              · (refine FixX.of (by first | rfl | kernel_rfl | (simp [Region.wanted, yielded]; done)) ?_; intro w' hS; have s0 := H6i.out.below hS hbl; have s1 := H6k.out.below hS hbl2; clear hS; unfold Oper.wp; go_simp; first | done | exact Below.refl _ _ | exact ⟨rfl, Below.refl _ _⟩ | exact ⟨rfl, (fun t ht => by injection ht with ht; subst ht; rfl), Below.refl _ _⟩)
              · (refine FixX.of (by first | rfl | kernel_rfl | (simp [Region.wanted, yielded]; done)) ?_; intro w' hS; have s0 := H6i.out.below hS hbl; have s1 := H6k.out.below hS hbl2; clear hS; unfold Oper.wp; go_simp; first | done | exact Below.refl _ _ | exact ⟨rfl, Below.refl _ _⟩ | exact ⟨rfl, (fun t ht => by injection ht with ht; subst ht; rfl), Below.refl _ _⟩)
              · (refine FixX.of (by first | rfl | kernel_rfl | (simp [Region.wanted, yielded]; done)) ?_; intro w' hS; have s3 := Lib.hid hS; unfold Oper.wp; clear hS; go_simp; refine (l01Times_any z x _ (by assumption)).mono ?_; rintro e w1 ⟨rfl, hb⟩; first | exact hb | exact ⟨rfl, hb⟩ | exact ⟨rfl, (fun t ht => by injection ht with ht; subst ht; rfl), hb⟩)
              · (refine FixX.of (by first | rfl | kernel_rfl | (simp [Region.wanted, yielded]; done)) ?_; intro w' hS; have s0 := H6i.out.below hS hbl; have s1 := H6k.out.below hS hbl2; clear hS; unfold Oper.wp; go_simp; first | done | exact Below.refl _ _ | exact ⟨rfl, Below.refl _ _⟩ | exact ⟨rfl, (fun t ht => by injection ht with ht; subst ht; rfl), Below.refl _ _⟩)
              · (refine FixX.of (by first | rfl | kernel_rfl | (simp [Region.wanted, yielded]; done)) ?_; intro w' hS; have s0 := H6i.out.below hS hbl; have s1 := H6k.out.below hS hbl2; clear hS; unfold Oper.wp; go_simp; first | done | exact Below.refl _ _ | exact ⟨rfl, Below.refl _ _⟩ | exact ⟨rfl, (fun t ht => by injection ht with ht; subst ht; rfl), Below.refl _ _⟩)
              · (refine FixX.of (by first | rfl | kernel_rfl | (simp [Region.wanted, yielded]; done)) ?_; intro w' hS; have s0 := H6i.out.below hS hbl; have s1 := H6k.out.below hS hbl2; clear hS; unfold Oper.wp; go_simp; first | done | exact Below.refl _ _ | exact ⟨rfl, Below.refl _ _⟩ | exact ⟨rfl, (fun t ht => by injection ht with ht; subst ht; rfl), Below.refl _ _⟩)
              · (refine FixX.of (by first | rfl | kernel_rfl | (simp [Region.wanted, yielded]; done)) ?_; intro w' hS; have s0 := H6i.out.below hS hbl; have s1 := H6k.out.below hS hbl2; clear hS; unfold Oper.wp; go_simp; first | done | exact Below.refl _ _ | exact ⟨rfl, Below.refl _ _⟩ | exact ⟨rfl, (fun t ht => by injection ht with ht; subst ht; rfl), Below.refl _ _⟩)
              · (refine FixX.of (by first | rfl | kernel_rfl | (simp [Region.wanted, yielded]; done)) ?_; intro w' hS; have s0 := H6i.out.below hS hbl; have s1 := H6k.out.below hS hbl2; clear hS; unfold Oper.wp; go_simp; first | done | exact Below.refl _ _ | exact ⟨rfl, Below.refl _ _⟩ | exact ⟨rfl, (fun t ht => by injection ht with ht; subst ht; rfl), Below.refl _ _⟩)
              · (refine FixX.of (by first | rfl | kernel_rfl | (simp [Region.wanted, yielded]; done)) ?_; intro w' hS; have s0 := H6i.out.below hS hbl; have s1 := H6k.out.below hS hbl2; clear hS; unfold Oper.wp; go_simp; first | done | exact Below.refl _ _ | exact ⟨rfl, Below.refl _ _⟩ | exact ⟨rfl, (fun t ht => by injection ht with ht; subst ht; rfl), Below.refl _ _⟩)
              · (refine FixX.of (by first | rfl | kernel_rfl | (simp [Region.wanted, yielded]; done)) ?_; intro w' hS; have s0 := H6i.out.below hS hbl; have s1 := H6k.out.below hS hbl2; clear hS; unfold Oper.wp; go_simp; first | done | exact Below.refl _ _ | exact ⟨rfl, Below.refl _ _⟩ | exact ⟨rfl, (fun t ht => by injection ht with ht; subst ht; rfl), Below.refl _ _⟩)
              · (refine FixX.of (by first | rfl | kernel_rfl | (simp [Region.wanted, yielded]; done)) ?_; intro w' hS; have s0 := H6i.out.below hS hbl; have s1 := H6k.out.below hS hbl2; clear hS; unfold Oper.wp; go_simp; first | done | exact Below.refl _ _ | exact ⟨rfl, Below.refl _ _⟩ | exact ⟨rfl, (fun t ht => by injection ht with ht; subst ht; rfl), Below.refl _ _⟩)
              · (refine FixX.of (by first | rfl | kernel_rfl | (simp [Region.wanted, yielded]; done)) ?_; intro w' hS; have s3 := Lib.hid hS; unfold Oper.wp; clear hS; go_simp; refine (l01Times_any x z _ (by assumption)).mono ?_; rintro e w1 ⟨rfl, hb⟩; first | exact hb | exact ⟨rfl, hb⟩ | exact ⟨rfl, (fun t ht => by injection ht with ht; subst ht; rfl), hb⟩)
              · (refine FixX.of (by first | rfl | kernel_rfl | (simp [Region.wanted, yielded]; done)) ?_; intro w' hS; have s0 := H6i.out.below hS hbl; have s1 := H6k.out.below hS hbl2; clear hS; unfold Oper.wp; go_simp; first | done | exact Below.refl _ _ | exact ⟨rfl, Below.refl _ _⟩ | exact ⟨rfl, (fun t ht => by injection ht with ht; subst ht; rfl), Below.refl _ _⟩)
              · (refine FixX.of (by first | rfl | kernel_rfl | (simp [Region.wanted, yielded]; done)) ?_; intro w' hS; have s0 := H6i.out.below hS hbl; have s1 := H6k.out.below hS hbl2; clear hS; unfold Oper.wp; go_simp; first | done | exact Below.refl _ _ | exact ⟨rfl, Below.refl _ _⟩ | exact ⟨rfl, (fun t ht => by injection ht with ht; subst ht; rfl), Below.refl _ _⟩)
              · (refine FixX.of (by first | rfl | kernel_rfl | (simp [Region.wanted, yielded]; done)) ?_; intro w' hS; have s0 := H6i.out.below hS hbl; have s1 := H6k.out.below hS hbl2; clear hS; unfold Oper.wp; go_simp; first | done | exact Below.refl _ _ | exact ⟨rfl, Below.refl _ _⟩ | exact ⟨rfl, (fun t ht => by injection ht with ht; subst ht; rfl), Below.refl _ _⟩)
            case hQ =>
            intro wc hS
            have HB2 := Lib.hid hS
            clear hS
            clear heq H6i H6k
            go_wp2_with fail
            go_roundw
            case rel => exact ⟨j + 1, by go_num, by omega, by rw [← Hz.out, Hs.out], Hb.out.trans (HB2.out.mono Hb.out.size), Ho.out.below HB2.out (Nat.le_refl _)⟩
            case measure => simp [intOf]; omega
        · have hji : ¬ (j : Int) < (m : Int) := by omega
          have htk : gens.take j = gens := List.take_of_length_le (by rw [Hgl.out]; omega)
          rw [htk]
          cases hg : gens.all (centQ (gm E q))
          · have Hz : Hid (centS gens (gm E q) = false) := hg
            have Hf : Hid ((E.take (q + 1)).filter (centS gens) = L) := by show _ = _; rw [filter_take (by rw [Hn.out]; exact hqN), Hz.out, ← HL.out]; simp
            clear hg htk
            go_wp2_with fail
            go_roundw
            case rel => exact ⟨q + 1, by go_num, by omega, Hb.out, by rw [Hf.out]; exact Ho.out⟩
            case measure => simp [intOf]; omega
          · have Hz : Hid (centS gens (gm E q) = true) := hg
            have hxx := Rd.more (Rd.below Hx.out Hb.out) Hb.out.size
            obtain ⟨x0, x1, x2, x3, x4, x5⟩ := (RdM.six hxx (k := q) (by rw [Hn.out]; exact hqN)).1
            obtain ⟨z, hzz⟩ : ∃ z, z = gm E q := ⟨_, rfl⟩
            rw [← hzz] at x0 x1 x2 x3 x4 x5
            have Hf : Hid ((E.take (q + 1)).filter (centS gens) = L ++ [z]) := by show _ = _; rw [filter_take (by rw [Hn.out]; exact hqN), Hz.out, ← HL.out, hzz]; simp
            have hsz := Hb.out.size
            clear hg hxx hzz Hz htk
            go_wp2_with (at_builtin; refine wpList_pushM rfl (.tmp 45) (.tmp 50) rfl w.heap.size (.slice A1 k1 c1) L rfl (Ho.out.alloc _) k1 Hk1.out wr.heap.size 1 z rfl (Blk.six (Blk.new _ _ _)) (by omega) (by simp; omega) (wr.heap.size + 1) (by simp) ?_; intro g' cap w4 ho' hgr hg' hlt'; have Hb4 := Lib.hid (((Ho.out.alloc (.cells (mc z) 31)).bel (Hb.out.alloc hsz _) hgr (Nat.le_refl _) (by simp; omega))); have Ho4 := Lib.hid ho'; clear ho' hgr hg' hlt')
            go_roundw
            case rel => exact ⟨q + 1, by go_num, by omega, Hb4.out, by rw [Hf.out]; exact Ho4.out⟩
            case measure => simp [intOf]; omega
    · obtain rfl : q = N := by omega
      have hqi : ¬ ((q : Int) < (q : Int)) := by omega
      have HR : Hid (E.filter (centS gens) = L) := by show _ = _; rw [HL.out, List.take_of_length_le (by rw [Hn.out]; exact Nat.le_refl _)]
      go_wp2_with fail
      go_ret
      exact ⟨_, rfl, by rw [HR.out]; exact Ho.out, Hb.out⟩
set_option maxRecDepth 100000
set_option linter.unusedSimpArgs false
/-! ### the same lists -/
section
variable {ms xs E : List M} {ps : Met}
theorem pc_eq {n : Int} {E : List M} (hm : Mnd n E) {i k j l : Nat} (hi : i < E.length) (hk : k < E.length) (hj : j < E.length) (hl : l < E.length) : (pc E i k == pc E j l) = decide (mul (gm E i) (gm E k) = mul (gm E j) (gm E l)) := by
  rw [Bool.eq_iff_iff, beq_iff_eq, decide_eq_true_eq, ← gm_pc hm hi hk, ← gm_pc hm hj hl]
  exact ⟨fun h => by rw [h], fun h => gm_inj hm.asc.nodup (pc_lt hm hi hk) (pc_lt hm hj hl) h⟩
theorem pc_at {n : Int} {E : List M} (hm : Mnd n E) {i k z : Nat} (hi : i < E.length) (hk : k < E.length) (hz : z < E.length) : (pc E i k == z) = decide (mul (gm E i) (gm E k) = gm E z) := by
  rw [Bool.eq_iff_iff, beq_iff_eq, decide_eq_true_eq, ← gm_pc hm hi hk]
  exact ⟨fun h => by rw [h], fun h => gm_inj hm.asc.nodup (pc_lt hm hi hk) hz h⟩
theorem all_range {E : List M} {P : M → Bool} {p : Nat → Bool} (h : ∀ i, i < E.length → p i = P (gm E i)) : (List.range E.length).all p = E.all P := by
  conv => rhs; rw [← range_gm' E]
  rw [List.all_map]
  rw [Bool.eq_iff_iff, List.all_eq_true, List.all_eq_true]
  exact ⟨fun h2 i hi => by rw [Function.comp_apply, ← h i (List.mem_range.1 hi)]; exact h2 i hi, fun h2 i hi => by rw [h i (List.mem_range.1 hi)]; exact h2 i hi⟩
theorem centB_eq (hE : El ms xs E ps) {i : Nat} (hi : i < E.length) : centB E i = centS ms (gm E i) := by
  unfold centB
  rw [all_range (P := fun x => decide (mul (gm E i) x = mul x (gm E i))) fun k hk => pc_eq hE.mnd hi hk hk hi]
  rw [Bool.eq_iff_iff]
  unfold centS centQ
  simp only [List.all_eq_true, decide_eq_true_eq]
  exact central_iff hE.mnd hE.mem hE.G (gm_mem hi)
theorem sideB_eq (hE : El ms xs E ps) (r : Bool) {z : Nat} (hz : z < E.length) : sideB E r z = zeroS E r (gm E z) := by
  unfold sideB zeroS
  refine all_range fun i hi => ?_
  unfold sideP zeroQ
  cases r
  · exact pc_at hE.mnd hz hi hz
  · exact pc_at hE.mnd hi hz hz
theorem that_cent (h : elC ms [] = 0) : thatR centB ms = (elR ms []).filter (centS ms) := by
  obtain ⟨E, ps, hE⟩ := elC_el h
  unfold thatR
  rw [hE.r, thatE_congr (q := fun i => centS ms (gm E i)) fun i hi => centB_eq hE hi, thatE_filter]
theorem that_idem : thatR idemB ms = (elR ms []).filter isIdem := thatE_filter _ _
theorem that_side (h : elC ms [] = 0) (r : Bool) : thatR (fun E => sideB E r) ms = (elR ms []).filter (zeroS (elR ms []) r) := by
  obtain ⟨E, ps, hE⟩ := elC_el h
  unfold thatR
  rw [hE.r, thatE_congr (q := fun i => zeroS E r (gm E i)) fun i hi => sideB_eq hE r hi, thatE_filter]
theorem that_zero (h : elC ms [] = 0) : thatR zeroB ms = (elR ms []).filter fun z => zeroS (elR ms []) true z && zeroS (elR ms []) false z := by
  obtain ⟨E, ps, hE⟩ := elC_el h
  unfold thatR
  rw [hE.r, thatE_congr (q := fun i => zeroS E true (gm E i) && zeroS E false (gm E i)) fun i hi => by unfold zeroB; rw [sideB_eq hE true hi, sideB_eq hE false hi], thatE_filter (fun z => zeroS E true z && zeroS E false z)]
theorem that_bad {p : List M → Nat → Bool} (h : elC ms [] ≠ 0) : thatR p ms = [] := by unfold thatR; rw [elR_bad h]; rfl
theorem that_len (p : List M → Nat → Bool) (ms : List M) : (thatR p ms).length ≤ 300 := by
  unfold thatR thatE
  rw [List.length_map]
  have h1 := List.length_filter_le (p (elR ms [])) (List.range (elR ms []).length)
  rw [List.length_range] at h1
  by_cases h : elC ms [] = 0
  · obtain ⟨E, ps, hE⟩ := elC_el h
    have := hE.len
    rw [hE.r] at h1 ⊢
    omega
  · rw [elR_bad h] at h1 ⊢
    simp at h1 ⊢
theorem filter_all_len {P : M → Bool} : ∀ {E : List M}, decide ((E.filter P).length = E.length) = E.all P
  | [] => rfl
  | x :: E => by
    have ih := filter_all_len (P := P) (E := E)
    rw [List.filter_cons, List.all_cons]
    cases hp : P x
    · have := List.length_filter_le P E
      simp; omega
    · simp only [if_true, List.length_cons, Bool.true_and, ← ih]
      rw [Bool.eq_iff_iff]; simp
theorem com_eq (hE : El ms xs E ps) : comB E = decide ((E.filter (centS ms)).length = E.length) := by
  unfold comB
  rw [filter_all_len]
  exact all_range fun i hi => centB_eq hE hi
end
theorem SpecCentre_any (A : Option Addr) (n c : Nat) (ms : List M) (w : World) (hx : RdM w w.heap.size A ms) (hn : ms.length = n) (hb : n < 1073741824) :
    Calls Tryz.prog 18 #[.slice A n c] w (RetS (thatR centB ms) (elC ms []) w) := by
  have Hx := Lib.hid hx
  have Hn := Lib.hid hn
  clear hx hn
  by_cases hc : elC ms [] = 0
  · obtain ⟨E, ps, hE⟩ := elC_el hc
    have hR := that_cent hc
    rw [hE.r] at hR
    have hlen := hE.len
    have hp1 : 0 < n := by have := hE.n1; have := Hn.out; omega
    have HR := Lib.hid hR
    have HE := Lib.hid hE
    have Hc := Lib.hid hc
    clear hE hc hR
    go_enter Tryz.func18, Tryz.ntmps18
    go_wp2_with fail
    refine (l02Elements_any A none n c 0 0 ms [] _ Hx.out Rd.nil_ Hn.out rfl hb (by decide)).mono ?_
    rintro e w1 ⟨A', c', rfl, hr, hb1⟩
    rw [HE.out.r] at hr ⊢
    rw [Hc.out]
    have Hr := Lib.hid hr
    have Hb1 := Lib.hid hb1
    obtain ⟨N, hN⟩ : ∃ N, E.length = N := ⟨_, rfl⟩
    rw [hN] at hlen ⊢
    have HN := Lib.hid hN
    clear hr hb1 hN
    go_wp2_with fail
    refine (centreS0_any A' A N c' n c E ms (gm ms 0).p w1 Hr.out HN.out HE.out.mnd hlen (Rd.more (Rd.below Hx.out Hb1.out) Hb1.out.size) Hn.out HE.out.G hp1 hb).mono ?_
    rintro e w2 ⟨v, rfl, ho, hb2⟩
    obtain ⟨A2, c2, rfl, hr2⟩ := ho.form
    rw [← HR.out] at hr2 ⊢
    have Hr2 := Lib.hid hr2
    have Hb2 := Lib.hid (Hb1.out.trans (hb2.mono Hb1.out.size))
    clear ho hr2 hb2
    go_wp2
    go_ret2
    exact .mk A2 c2 (by rw [Hc.out] <;> rfl) Hr2.out Hb2.out
  · have HR := Lib.hid (that_bad (p := centB) hc)
    have hne : (elC ms [] != 0) = true := by simpa using hc
    clear hc
    go_enter Tryz.func18, Tryz.ntmps18
    go_wp2_with fail
    refine (l02Elements_any A none n c 0 0 ms [] _ Hx.out Rd.nil_ Hn.out rfl hb (by decide)).mono ?_
    rintro e w1 ⟨A', c', rfl, hr, hb1⟩
    clear hr
    go_wp2
    go_ret2
    exact .mk none 0 (by rw [HR.out] <;> rfl) (by rw [HR.out]; exact Rd.nil_) hb1
theorem SpecSide_any (A : Option Addr) (n c : Nat) (ms : List M) (r : Bool) (w : World) (hx : RdM w w.heap.size A ms) (hn : ms.length = n) (hb : n < 1073741824) :
    Calls Tryz.prog 14 #[.slice A n c, .bool r] w (RetS (thatR (fun E => sideB E r) ms) (elC ms []) w) := by
  have Hx := Lib.hid hx
  have Hn := Lib.hid hn
  clear hx hn
  by_cases hc : elC ms [] = 0
  · obtain ⟨E, ps, hE⟩ := elC_el hc
    have hR := that_side hc r
    rw [hE.r] at hR
    have hlen := hE.len
    have HR := Lib.hid hR
    have HE := Lib.hid hE
    have Hc := Lib.hid hc
    obtain ⟨R, hRR⟩ : ∃ R, R = thatR (fun E => sideB E r) ms := ⟨_, rfl⟩
    rw [← hRR] at HR ⊢
    clear hE hc hR hRR
    go_enter Tryz.func14, Tryz.ntmps14
    go_wp2_with fail
    refine (l02Elements_any A none n c 0 0 ms [] _ Hx.out Rd.nil_ Hn.out rfl hb (by decide)).mono ?_
    rintro e w1 ⟨A', c', rfl, hr, hb1⟩
    rw [HE.out.r] at hr ⊢
    rw [Hc.out]
    have Hr := Lib.hid hr
    have Hb1 := Lib.hid hb1
    obtain ⟨N, hN⟩ : ∃ N, E.length = N := ⟨_, rfl⟩
    rw [hN] at hlen ⊢
    have HN := Lib.hid hN
    clear hr hb1 hN
    go_wp2_with fail
    refine (zerosS_any A' N c' E (gm ms 0).p r w1 Hr.out HN.out HE.out.mnd hlen).mono ?_
    rintro e w2 ⟨v, rfl, ho, hb2⟩
    obtain ⟨A2, c2, rfl, hr2⟩ := ho.form
    rw [← HR.out] at hr2 ⊢
    have Hr2 := Lib.hid hr2
    have Hb2 := Lib.hid (Hb1.out.trans (hb2.mono Hb1.out.size))
    clear ho hr2 hb2
    go_wp2
    go_ret2
    exact .mk A2 c2 (by rw [Hc.out] <;> rfl) Hr2.out Hb2.out
  · have HR := Lib.hid (that_bad (p := fun E => sideB E r) hc)
    have hne : (elC ms [] != 0) = true := by simpa using hc
    obtain ⟨R, hRR⟩ : ∃ R, R = thatR (fun E => sideB E r) ms := ⟨_, rfl⟩
    rw [← hRR] at HR ⊢
    clear hc hRR
    go_enter Tryz.func14, Tryz.ntmps14
    go_wp2_with fail
    refine (l02Elements_any A none n c 0 0 ms [] _ Hx.out Rd.nil_ Hn.out rfl hb (by decide)).mono ?_
    rintro e w1 ⟨A', c', rfl, hr, hb1⟩
    clear hr
    go_wp2
    go_ret2
    exact .mk none 0 (by rw [HR.out] <;> rfl) (by rw [HR.out]; exact Rd.nil_) hb1
theorem SpecCom_any (A : Option Addr) (n c : Nat) (ms : List M) (w : World) (hx : RdM w w.heap.size A ms) (hn : ms.length = n) (hb : n < 1073741824) :
    Calls Tryz.prog 21 #[.slice A n c] w fun e w' => e = .returned (.tuple #[.bool (comR ms), I (elC ms [])]) ∧ Below w.heap.size w w' := by
  have Hx := Lib.hid hx
  have Hn := Lib.hid hn
  clear hx hn
  by_cases hc : elC ms [] = 0
  · obtain ⟨E, ps, hE⟩ := elC_el hc
    have hR : comR ms = decide ((E.filter (centS ms)).length = E.length) := by unfold comR; rw [decide_eq_true hc, Bool.true_and, hE.r, com_eq hE]
    have hlen := hE.len
    have hp1 : 0 < n := by have := hE.n1; have := Hn.out; omega
    have HR := Lib.hid hR
    have HE := Lib.hid hE
    have Hc := Lib.hid hc
    clear hE hc hR
    go_enter Tryz.func21, Tryz.ntmps21
    go_wp2_with fail
    refine (l02Elements_any A none n c 0 0 ms [] _ Hx.out Rd.nil_ Hn.out rfl hb (by decide)).mono ?_
    rintro e w1 ⟨A', c', rfl, hr, hb1⟩
    rw [HE.out.r] at hr ⊢
    rw [Hc.out]
    have Hr := Lib.hid hr
    have Hb1 := Lib.hid hb1
    obtain ⟨N, hN⟩ : ∃ N, E.length = N := ⟨_, rfl⟩
    rw [hN] at hlen HR ⊢
    have HN := Lib.hid hN
    clear hr hb1 hN
    go_wp2_with fail
    refine (centreS0_any A' A N c' n c E ms (gm ms 0).p w1 Hr.out HN.out HE.out.mnd hlen (Rd.more (Rd.below Hx.out Hb1.out) Hb1.out.size) Hn.out HE.out.G hp1 hb).mono ?_
    rintro e w2 ⟨v, rfl, ho, hb2⟩
    obtain ⟨A2, c2, rfl, hr2⟩ := ho.form
    obtain ⟨k, hk⟩ : ∃ k, k = (E.filter (centS ms)).length := ⟨_, rfl⟩
    rw [← hk] at HR ⊢
    have Hb2 := Lib.hid (Hb1.out.trans (hb2.mono Hb1.out.size))
    clear ho hr2 hb2 hk
    by_cases hkN : k = N
    · have hR2 : comR ms = true := by rw [HR.out]; exact decide_eq_true hkN
      have HR2 := Lib.hid hR2
      have hki : ((k : Int) == (N : Int)) = true := by simp [hkN]
      clear hkN hR2
      go_wp2
      go_ret2
      exact ⟨by rw [HR2.out, Hc.out] <;> rfl, Hb2.out⟩
    · have hR2 : comR ms = false := by rw [HR.out]; exact decide_eq_false hkN
      have HR2 := Lib.hid hR2
      have hki : ((k : Int) == (N : Int)) = false := by simp; omega
      clear hkN hR2
      go_wp2
      go_ret2
      exact ⟨by rw [HR2.out, Hc.out] <;> rfl, Hb2.out⟩
  · have hR : comR ms = false := by unfold comR; rw [decide_eq_false hc]; rfl
    have HR := Lib.hid hR
    have hne : (elC ms [] != 0) = true := by simpa using hc
    clear hc hR
    go_enter Tryz.func21, Tryz.ntmps21
    go_wp2_with fail
    refine (l02Elements_any A none n c 0 0 ms [] _ Hx.out Rd.nil_ Hn.out rfl hb (by decide)).mono ?_
    rintro e w1 ⟨A', c', rfl, hr, hb1⟩
    clear hr
    go_wp2
    go_ret2
    exact ⟨by rw [HR.out] <;> rfl, hb1⟩
end Go.Proofs.YtchjegojcpbfpaaGreat

namespace Go.Proofs.YtchjegojcpbfpaaGreat
open Go.RowKit
set_option maxRecDepth 100000
set_option linter.unusedSimpArgs false
theorem SpecIdem_any (A : Option Addr) (n c : Nat) (ms : List M) (w : World) (hx : RdM w w.heap.size A ms) (hn : ms.length = n) (hb : n < 1073741824) :
    Calls Tryz.prog 16 #[.slice A n c] w (RetS (thatR idemB ms) (elC ms []) w) := by
  have Hx := Lib.hid hx
  have Hn := Lib.hid hn
  clear hx hn
  by_cases hc : elC ms [] = 0
  · obtain ⟨E, ps, hE⟩ := elC_el hc
    have hR := that_idem (ms := ms)
    rw [hE.r] at hR
    have hlen := hE.len
    have hpos := hE.pos
    have HEv : Hid (∀ i, i < E.length → Valid (gm E i)) := fun i hi => (hE.mnd.ok _ (gm_mem hi)).1
    have HR := Lib.hid hR
    have HE := Lib.hid hE
    have Hc := Lib.hid hc
    clear hE hc hR
    go_enter Tryz.func16, Tryz.ntmps16
    go_wp2_with fail
    refine (l02Elements_any A none n c 0 0 ms [] _ Hx.out Rd.nil_ Hn.out rfl hb (by decide)).mono ?_
    rintro e w1 ⟨A', c', rfl, hr, hb1⟩
    rw [HE.out.r] at hr ⊢
    rw [Hc.out]
    obtain ⟨b, off, rfl, hbb, _⟩ := RdM.at_ hr hpos
    have Hr := Lib.hid hr
    have Hb1 := Lib.hid hb1
    have hz1 := hb1.size
    obtain ⟨N, hN⟩ : ∃ N, E.length = N := ⟨_, rfl⟩
    rw [hN] at hlen hpos HEv ⊢
    have HN := Lib.hid hN
    clear hr hb1 hN
    go_wp2_with fail
    go_loopw [6, 7] (fun v i wr => ∃ q : Nat, i = .int .i64 q ∧ q ≤ N ∧ Below w1.heap.size w1 wr ∧ OwM 31 wr w1.heap.size v ((E.take q).filter isIdem)) (fun _ i _ => N - (intOf i).toNat)
    case atStart => exact ⟨0, rfl, by omega, (Below.refl _ _).alloc (Nat.le_refl _) _, by simpa using OwM.made (Nat.le_refl _)⟩
    case round =>
      obtain ⟨q, rfl, hq, hb, ho⟩ := hrel
      obtain ⟨L, hL⟩ : ∃ L, L = (E.take q).filter isIdem := ⟨_, rfl⟩
      rw [← hL] at ho
      have hLl : L.length ≤ 300 := by rw [hL]; have := filter_len E isIdem q; have := HN.out; omega
      have HL := Lib.hid hL
      obtain ⟨A1, c1, hv, _⟩ := ho.form
      obtain ⟨k1, hk1⟩ : ∃ k1, L.length = k1 := ⟨_, rfl⟩
      rw [hk1] at hv hLl
      subst hv
      have Hk1 := Lib.hid hk1
      have Hb := Lib.hid hb
      have Ho := Lib.hid ho
      clear hb ho hL hk1
      by_cases hqN : q < N
      · have hqi : (q : Int) < (N : Int) := by omega
        have hv := HEv.out q hqN
        obtain ⟨z, hzz⟩ : ∃ z, z = gm E q := ⟨_, rfl⟩
        have H6 := (RdM.six (Rd.more (Rd.below Hr.out Hb.out) Hb.out.size) (k := q) (by rw [HN.out]; exact hqN)).1
        rw [← hzz] at H6 hv
        have H6h := Lib.hid H6
        have hfs := filter_take (E := E) (P := isIdem) (r := q) (by rw [HN.out]; exact hqN)
        rw [← HL.out, ← hzz] at hfs
        obtain ⟨x0, x1, x2, x3, x4, x5⟩ := H6
        have Hfs := Lib.hid hfs
        clear hzz hfs
        go_wp2_with fail
        refine (l01Idem_any z wr hv).mono ?_
        rintro e w3 ⟨rfl, hb3⟩
        have H63 := H6h.out.below hb3 H6h.out.lt
        have Hb3 := Lib.hid (Hb.out.trans (hb3.mono Hb.out.size))
        have Ho3 := Lib.hid (Ho.out.below hb3 (Nat.le_refl _))
        have hsz := Hb3.out.size
        clear hb3 x0 x1 x2 x3 x4 x5 H6h Ho Hb
        cases hi : isIdem z
        · have hf : (E.take (q + 1)).filter isIdem = L := by rw [Hfs.out, hi]; simp
          have Hf := Lib.hid hf
          clear hf hi H63
          go_wp2_with fail
          go_roundw
          case rel => exact ⟨q + 1, by go_num, by omega, Hb3.out, by rw [Hf.out]; exact Ho3.out⟩
          case measure => simp [intOf]; omega
        · have hf : (E.take (q + 1)).filter isIdem = L ++ [z] := by rw [Hfs.out, hi]; simp
          have Hf := Lib.hid hf
          obtain ⟨x0, x1, x2, x3, x4, x5⟩ := H63
          clear hf hi
          go_wp2_with (at_builtin; refine wpList_pushM rfl (.tmp 28) (.tmp 33) rfl w1.heap.size (.slice A1 k1 c1) L rfl (Ho3.out.alloc _) k1 Hk1.out w3.heap.size 1 z rfl (Blk.six (Blk.new _ _ _)) (by omega) (by simp; omega) (w3.heap.size + 1) (by simp) ?_; intro g' cap w4 ho' hgr hg' hlt'; have Hb4 := Lib.hid (((Ho3.out.alloc (.cells (mc z) 31)).bel (Hb3.out.alloc hsz _) hgr (Nat.le_refl _) (by simp; omega))); have Ho4 := Lib.hid ho'; clear ho' hgr hg' hlt')
          go_roundw
          case rel => exact ⟨q + 1, by go_num, by omega, Hb4.out, by rw [Hf.out]; exact Ho4.out⟩
          case measure => simp [intOf]; omega
      · obtain rfl : q = N := by omega
        have hqi : ¬ ((q : Int) < (q : Int)) := by omega
        have hRL : thatR idemB ms = L := by rw [HR.out, HL.out, List.take_of_length_le (by rw [HN.out]; exact Nat.le_refl _)]
        have HRL := Lib.hid hRL
        have Hb2 := Lib.hid (Hb1.out.trans (Hb.out.mono Hb1.out.size))
        clear hRL
        go_wp2_with fail
        go_ret2
        exact .mk A1 c1 (by rw [HRL.out, Hk1.out, Hc.out] <;> rfl) (by rw [HRL.out]; exact Ho.out.rdA) Hb2.out
  · have HR := Lib.hid (that_bad (p := idemB) hc)
    have hne : (elC ms [] != 0) = true := by simpa using hc
    clear hc
    go_enter Tryz.func16, Tryz.ntmps16
    go_wp2_with fail
    refine (l02Elements_any A none n c 0 0 ms [] _ Hx.out Rd.nil_ Hn.out rfl hb (by decide)).mono ?_
    rintro e w1 ⟨A', c', rfl, hr, hb1⟩
    clear hr
    go_wp2
    go_ret2
    exact .mk none 0 (by rw [HR.out] <;> rfl) (by rw [HR.out]; exact Rd.nil_) hb1
/-! ### the zero -/
theorem zero_first {P Q : M → Bool} {E : List M} : (E.filter fun z => P z && Q z) = (E.filter Q).filter P := by rw [List.filter_filter]
theorem asc_filter {E : List M} (h : Asc E) (P : M → Bool) : Asc (E.filter P) := h.sublist List.filter_sublist
theorem head_filter {P : M → Bool} : ∀ {L : List M} {i : Nat}, i < L.length → (∀ j, j < i → P (gm L j) = false) → P (gm L i) = true → ∃ R, L.filter P = gm L i :: R
  | [], i, h, _, _ => by simp at h
  | x :: L, 0, _, _, hp => ⟨L.filter P, by rw [List.filter_cons]; have : P x = true := hp; rw [this]; rfl⟩
  | x :: L, i + 1, h, hj, hp => by
    have h0 : P x = false := hj 0 (by omega)
    rw [gm_cons_succ] at hp ⊢
    obtain ⟨R, hR⟩ := head_filter (P := P) (L := L) (i := i) (by simpa using h) (fun j hj2 => by have := hj (j + 1) (by omega); rwa [gm_cons_succ] at this) hp
    exact ⟨R, by rw [List.filter_cons, h0]; exact hR⟩
theorem none_filter {P : M → Bool} {L : List M} (h : ∀ j, j < L.length → P (gm L j) = false) : L.filter P = [] := by
  rw [List.filter_eq_nil_iff]
  intro x hx
  obtain ⟨i, hi, e⟩ := mem_gm hx
  rw [← e, h i hi]; simp
theorem SpecZero_any (A : Option Addr) (n c : Nat) (ms : List M) (w : World) (hx : RdM w w.heap.size A ms) (hn : ms.length = n) (hb : n < 1073741824) :
    Calls Tryz.prog 11 #[.slice A n c] w fun e w' => e = .returned (.tuple #[.agg (mc (zeroR ms)), I (zeroC ms)]) ∧ Below w.heap.size w w' := by
  obtain ⟨wb, hwb⟩ : ∃ wb, wb = w.alloc (.cells #[.int .i64 0, .int .i64 0, .int .i64 0, .int .i64 0, .int .i64 0, .int .i64 0] 31) := ⟨_, rfl⟩
  have hbb : Below w.heap.size w wb := by rw [hwb]; exact (Below.refl _ _).alloc (Nat.le_refl _) _
  have HB : Hid (Blk wb w.heap.size 31 (mc M0)) := by show Blk _ _ _ _; rw [hwb]; exact Blk.new w _ _
  have Hx := Lib.hid (Rd.more (Rd.below hx hbb) hbb.size)
  have Hn := Lib.hid hn
  have Hbb := Lib.hid hbb
  have Hwb := Lib.hid hwb
  have hlt := HB.out.lt
  have hz0 := hbb.size
  clear hx hn hbb hwb
  by_cases hc : elC ms [] = 0
  · obtain ⟨E, ps, hE⟩ := elC_el hc
    have hT := that_zero hc
    rw [hE.r, zero_first] at hT
    have HC : Hid (zeroC ms = if thatR zeroB ms = [] then 4 else 0) := by show _ = _; unfold zeroC; rw [if_pos hc]
    have HR : Hid (zeroR ms = (thatR zeroB ms).headD M0) := rfl
    have hlen := hE.len
    have HE := Lib.hid hE
    have HT := Lib.hid hT
    have Hc := Lib.hid hc
    clear hE hc hT
    go_enter Tryz.func11, Tryz.ntmps11
    go_wp2_with fail
    rw [← Hwb.out]
    refine (l02Elements_any A none n c 0 0 ms [] wb Hx.out Rd.nil_ Hn.out rfl hb (by decide)).mono ?_
    rintro e w1 ⟨A', c', rfl, hr, hb1⟩
    rw [HE.out.r] at hr ⊢
    rw [Hc.out]
    have Hr := Lib.hid hr
    have Hb1 := Lib.hid hb1
    have hz1 := hb1.size
    obtain ⟨N, hN⟩ : ∃ N, E.length = N := ⟨_, rfl⟩
    rw [hN] at hlen ⊢
    have HN := Lib.hid hN
    clear hr hb1 hN
    go_wp2_with fail
    refine (zerosS_any A' N c' E (gm ms 0).p false w1 Hr.out HN.out HE.out.mnd hlen).mono ?_
    rintro e w2 ⟨v, rfl, ho, hb2⟩
    obtain ⟨A2, c2, rfl, hr2⟩ := ho.form
    obtain ⟨L, hL⟩ : ∃ L, L = E.filter (zeroS E false) := ⟨_, rfl⟩
    rw [← hL] at hr2 HT ⊢
    have hLl : L.length ≤ 300 := by rw [hL]; have := List.length_filter_le (zeroS E false) E; have := HN.out; omega
    have HLE : Hid (∀ x ∈ L, x ∈ E) := fun x hx => by rw [hL] at hx; exact (List.mem_filter.1 hx).1
    obtain ⟨k, hk⟩ : ∃ k, L.length = k := ⟨_, rfl⟩
    rw [hk] at hLl ⊢
    have Hk := Lib.hid hk
    have Hr2 := Lib.hid hr2
    have Hb2 := Lib.hid hb2
    have hz2 := hb2.size
    clear ho hr2 hb2 hL hk
    go_wp2_with fail
    refine (zerosS_any A' N c' E (gm ms 0).p true w2 (Rd.more (Rd.below Hr.out Hb2.out) hz2) HN.out HE.out.mnd hlen).mono ?_
    rintro e w3 ⟨v, rfl, ho, hb3⟩
    obtain ⟨A3, c3, rfl, hr3⟩ := ho.form
    have Hr3 := Lib.hid hr3
    have Hr23 := Lib.hid (Rd.more (Rd.below Hr2.out hb3) hb3.size)
    have HB3 := Lib.hid (Hb1.out.trans ((Hb2.out.trans (hb3.mono hz2)).mono hz1))
    obtain ⟨m, hm⟩ : ∃ m, (E.filter (zeroS E true)).length = m := ⟨_, rfl⟩
    have hml : m ≤ 300 := by have := List.length_filter_le (zeroS E true) E; have := HN.out; omega
    rw [hm]
    have Hm := Lib.hid hm
    have HRA : Hid (Asc (E.filter (zeroS E true))) := asc_filter HE.out.mnd.asc _
    have HRV : Hid (∀ g ∈ E.filter (zeroS E true), Valid g) := fun g hg => (HE.out.mnd.ok g (List.mem_filter.1 hg).1).1
    have hz3 := HB3.out.size
    clear ho hr3 hb3 hm Hr2 Hb2
    go_wp2_with fail
    go_loopw [8] (fun i wr => ∃ q : Nat, i = .int .i64 q ∧ q ≤ k ∧ Below w3.heap.size w3 wr ∧ ∀ j, j < q → zeroS E true (gm L j) = false) (fun i _ => k - (intOf i).toNat)
    case atStart => exact ⟨0, rfl, by omega, Below.refl _ _, fun j hj => by omega⟩
    case round =>
      obtain ⟨q, rfl, hq, hb, hnone⟩ := hrel
      have Hb := Lib.hid hb
      have Hno := Lib.hid hnone
      clear hb hnone
      by_cases hqk : q < k
      · have hqi : (q : Int) < (k : Int) := by omega
        have h0 := Rd.more (Rd.below Hr23.out Hb.out) Hb.out.size
        obtain ⟨b, off, rfl, hbl, h6⟩ := RdM.at_ h0 (k := q) (by rw [Hk.out]; exact hqk)
        obtain ⟨z, hzz⟩ : ∃ z, z = gm L q := ⟨_, rfl⟩
        rw [← hzz] at h6
        have hzE : z ∈ E := HLE.out z (by rw [hzz]; exact gm_mem (by rw [Hk.out]; exact hqk))
        have hvz := (HE.out.mnd.ok z hzE).1
        have H6 := Lib.hid h6
        obtain ⟨x0, x1, x2, x3, x4, x5⟩ := h6
        have HzE := Lib.hid hzE
        have Hzz := Lib.hid hzz
        clear h0 hzz hzE
        go_wp2_with fail
        refine (l02Find_any A3 m c3 (E.filter (zeroS E true)) z wr (Rd.more (Rd.below Hr3.out Hb.out) Hb.out.size) Hm.out (by omega) HRA.out HRV.out hvz).mono ?_
        rintro e w4 ⟨rfl, hb4⟩
        have Hb4 := Lib.hid (Hb.out.trans (hb4.mono Hb.out.size))
        have H64 := Lib.hid (H6.out.below hb4 hbl)
        clear hb4 x0 x1 x2 x3 x4 x5 H6
        by_cases hin : zeroS E true z = true
        · have hmem : z ∈ E.filter (zeroS E true) := List.mem_filter.2 ⟨HzE.out, hin⟩
          obtain ⟨y, hy⟩ : ∃ y : Nat, plOf (E.filter (zeroS E true)) z - 1 = (y : Int) := ⟨ix (E.filter (zeroS E true)) z, by rw [plOf_in hmem]; omega⟩
          have hy0 : (0 : Int) ≤ (y : Int) := by omega
          rw [hy]
          have hz : zeroR ms = z ∧ zeroC ms = 0 := by
            obtain ⟨R, hR⟩ := head_filter (P := zeroS E true) (L := L) (i := q) (by rw [Hk.out]; exact hqk) Hno.out (by rw [← Hzz.out]; exact hin)
            rw [← HT.out, ← Hzz.out] at hR
            rw [HR.out, HC.out, hR]
            exact ⟨rfl, if_neg (by simp)⟩
          have Hz := Lib.hid hz
          have HBk := HB.out.below (HB3.out.trans (Hb4.out.mono hz3)) hlt
          obtain ⟨e0, e1, e2, e3, e4, e5⟩ := HBk.six
          obtain ⟨z0, z1, z2, z3, z4, z5⟩ := HBk.fr6
          obtain ⟨x0, x1, x2, x3, x4, x5⟩ := H64.out
          have Hbe := Lib.hid (Hbb.out.trans ((HB3.out.trans (Hb4.out.mono hz3)).mono Hbb.out.size))
          have Hbk := Lib.hid HBk
          clear hin hmem hy hz HBk
          go_wp2
          refine bodyPost_ret (v := .tuple #[.agg (mc z), I 0]) ?_ rfl ⟨by rw [Hz.out.1, Hz.out.2], below_st6 Hbe.out (Nat.le_refl _) z⟩
          simp [results, Tryz.results11, go_sem, *]
        · have hnm : z ∉ E.filter (zeroS E true) := fun h => hin (List.mem_filter.1 h).2
          have hy : plOf (E.filter (zeroS E true)) z - 1 = -1 := by rw [plOf_out hnm]; rfl
          rw [hy]
          have Hin : Hid (zeroS E true z = false) := by show _ = _; simpa using hin
          clear hin hnm hy
          go_wp2_with fail
          go_roundw
          case rel => exact ⟨q + 1, by go_num, by omega, Hb4.out, fun j hj => by
            by_cases e : j = q
            · rw [e, ← Hzz.out]; exact Hin.out
            · exact Hno.out j (by omega)⟩
          case measure => simp [intOf]; omega
      · obtain rfl : q = k := by omega
        have hqi : ¬ ((q : Int) < (q : Int)) := by omega
        have hz : zeroR ms = M0 ∧ zeroC ms = 4 := by
          have hR := none_filter (P := zeroS E true) (L := L) (fun j hj => Hno.out j (by rw [Hk.out] at hj; exact hj))
          rw [← HT.out] at hR
          rw [HR.out, HC.out, hR]
          exact ⟨rfl, rfl⟩
        have Hz := Lib.hid hz
        have HBk := HB.out.below (HB3.out.trans (Hb.out.mono hz3)) hlt
        obtain ⟨e0, e1, e2, e3, e4, e5⟩ := HBk.six
        obtain ⟨z0, z1, z2, z3, z4, z5⟩ := HBk.fr6
        have Hbe := Lib.hid (Hbb.out.trans ((HB3.out.trans (Hb.out.mono hz3)).mono Hbb.out.size))
        clear hz HBk
        go_wp2
        refine bodyPost_ret (v := .tuple #[.agg (mc M0), I 4]) ?_ rfl ⟨by rw [Hz.out.1, Hz.out.2], below_st6 Hbe.out (Nat.le_refl _) M0⟩
        simp [results, Tryz.results11, go_sem, *]
        exact ⟨rfl, rfl, rfl, rfl, rfl, rfl⟩
  · have hR : thatR zeroB ms = [] := that_bad hc
    have HC : Hid (zeroC ms = elC ms []) := by show _ = _; unfold zeroC; rw [if_neg hc]
    have HR : Hid (zeroR ms = M0) := by show _ = _; unfold zeroR; rw [hR]; rfl
    have hne : (elC ms [] != 0) = true := by simpa using hc
    clear hc hR
    go_enter Tryz.func11, Tryz.ntmps11
    go_wp2_with fail
    rw [← Hwb.out]
    refine (l02Elements_any A none n c 0 0 ms [] wb Hx.out Rd.nil_ Hn.out rfl hb (by decide)).mono ?_
    rintro e w1 ⟨A', c', rfl, hr, hb1⟩
    have HB1 := HB.out.below hb1 hlt
    obtain ⟨e0, e1, e2, e3, e4, e5⟩ := HB1.six
    obtain ⟨z0, z1, z2, z3, z4, z5⟩ := HB1.fr6
    have Hb := Lib.hid (Hbb.out.trans (hb1.mono Hbb.out.size))
    clear hr hb1
    go_wp2
    refine bodyPost_ret (v := .tuple #[.agg (mc M0), I (elC ms [])]) ?_ rfl ⟨by rw [HR.out, HC.out], below_st6 Hb.out (Nat.le_refl _) M0⟩
    simp [results, Tryz.results11, go_sem, *]
    exact ⟨rfl, rfl, rfl, rfl, rfl, rfl⟩
/-! ### regular elements -/
end Go.Proofs.YtchjegojcpbfpaaGreat

namespace Go.Proofs.YtchjegojcpbfpaaGreat
open Go.RowKit
set_option maxRecDepth 100000
def ups (n : Nat) : List Int := (List.range n).map fun k : Nat => (k : Int)
theorem ups_length (n : Nat) : (ups n).length = n := by simp [ups]
theorem ups_succ (n : Nat) : ups (n + 1) = ups n ++ [(n : Int)] := by simp [ups, List.range_succ]
theorem gi_ups {n k : Nat} (h : k < n) : gi (ups n) k = k := by simp [gi, ups, List.getD, h]
theorem points_any (n : Nat) (w : World) (hn : n < 1073741824) :
    Calls Tryz.prog 68 #[.int .i64 n] w fun e w' => ∃ v, e = .returned v ∧ OwI 2 w' w.heap.size v (ups n) ∧ Below w.heap.size w w' := by
  go_enter Tryz.func68, Tryz.ntmps68
  go_wp2
  go_loopw [3, 6] (fun v i wr => ∃ k : Nat, k ≤ n ∧ i = .int .i64 k ∧ OwI 2 wr w.heap.size v (ups k) ∧ Below w.heap.size w wr) (fun _ i _ => n - (intOf i).toNat)
  case atStart => exact ⟨0, by omega, rfl, OwI.nil_, by (repeat (first | with_reducible assumption | with_reducible exact Below.refl _ _ | with_reducible refine Below.setCell ?_ (by first | omega | (simp <;> omega)) _ | with_reducible refine Below.alloc ?_ (by first | omega | (simp <;> omega)) _ | with_reducible refine Below.drew ?_ | with_reducible refine Below.drewN ?_ _))⟩
  case round =>
    obtain ⟨k, hk, rfl, ho, hbel⟩ := hrel
    obtain ⟨A, c, hv, _⟩ := ho.form
    rw [ups_length] at hv
    subst hv
    have hsz := hbel.size
    by_cases hlt : k < n
    · go_wp2_with (at_builtin; refine wpList_pushI rfl (.tmp 9) (.tmp 11) rfl w.heap.size (.slice A k c) (ups k) rfl (ho.alloc _) wr.heap.size 1 k rfl ((Blk.new _ _ _).cell 0) (by rw [ups_length]; omega) (by simp; omega) (wr.heap.size + 1) (by simp) ?_; intro g' cap w4 ho' hgr hg' hlt')
      go_roundw
      case rel => exact ⟨k + 1, by omega, by go_num, by rw [ups_succ]; simpa [ups_length] using ho', (ho.alloc _).bel (hbel.alloc hsz _) hgr (by omega) (by simp; omega)⟩
      case measure => simp [intOf]; omega
    · obtain rfl : k = n := by omega
      go_wp2
      go_ret
      exact ⟨_, rfl, ho, hbel⟩
theorem OwI.spotD {e : TypeId} {w : World} {B g n c : Nat} {zs : List Int} (h : OwI e w B (.slice (some ⟨g, 0, none⟩) n c) zs) {k : Nat} (hk : k < zs.length) :
    w.cell? ⟨g, k, none⟩ = some (I (gi zs k)) ∧ w.frozen? ⟨g, k, none⟩ = false ∧ g < w.heap.size ∧ B ≤ g ∧ ∀ z, OwI e (w.setCell ⟨g, k, none⟩ (I z)) B (.slice (some ⟨g, 0, none⟩) n c) (zs.set k z) := by
  obtain ⟨g', c', hv, h1, h2, h3, h4, h5⟩ := h.spot hk
  injection hv with hv e2 e3
  injection hv with hv
  injection hv with hv _ _
  subst hv
  exact ⟨h3, h4, h2, h1, h5⟩
theorem OwI.setCells {e : TypeId} {B g n c : Nat} : ∀ (L : List Int) (o : Nat) (w : World) (rs : List Int), OwI e w B (.slice (some ⟨g, 0, none⟩) n c) rs → o + L.length ≤ rs.length →
    ∃ rs', rs'.length = rs.length ∧ rs'.take o = rs.take o ∧ OwI e (w.setCells g o (L.map I)) B (.slice (some ⟨g, 0, none⟩) n c) rs'
  | [], o, w, rs, h, _ => ⟨rs, rfl, rfl, h⟩
  | z :: L, o, w, rs, h, hl => by
    simp only [List.length_cons] at hl
    have h1 := (h.spotD (k := o) (by omega)).2.2.2.2 z
    obtain ⟨rs', e1, e2, e3⟩ := OwI.setCells L (o + 1) _ _ h1 (by simp; omega)
    refine ⟨rs', by simpa using e1, ?_, e3⟩
    have := congrArg (List.take o) e2
    rw [List.take_take, List.take_take, Nat.min_eq_left (by omega), List.take_set_of_le (by omega)] at this
    exact this
theorem OwI.cut {e : TypeId} {w : World} {B g n c : Nat} {zs : List Int} (h : OwI e w B (.slice (some ⟨g, 0, none⟩) n c) zs) {i : Nat} (hi : i ≤ zs.length) : OwI e w B (.slice (some ⟨g, 0, none⟩) i c) (zs.take i) := by
  have hlen : (zs.take i).length = i := by simp; omega
  rcases h.2 with ⟨hv, _⟩ | ⟨g', cap, cur, hv, h1, h2, h3, h4, h5, h6⟩
  · cases hv
  · injection hv with hv e2 e3
    injection hv with hv
    injection hv with hv _ _
    subst hv e3
    refine ⟨by simp [cI], .inr ⟨g, c, cur, by rw [hlen], h1, h2, by omega, h4, h5, ?_⟩⟩
    rw [hlen, Nat.mul_one]
    have := congrArg (List.take i) h6
    rw [List.take_take, Nat.mul_one, Nat.min_eq_left (by omega)] at this
    rw [this]
    simp [cI, List.map_take]
theorem OwI.cap {e : TypeId} {w : World} {B g n c : Nat} {zs : List Int} (h : OwI e w B (.slice (some ⟨g, 0, none⟩) n c) zs) : zs.length = n ∧ n ≤ c := by
  rcases h.2 with ⟨hv, _⟩ | ⟨g', cap, cur, hv, h1, h2, h3, h4, h5, h6⟩
  · cases hv
  · injection hv with hv e2 e3
    subst e2 e3
    exact ⟨rfl, h3⟩
theorem OwI.rd {e : TypeId} {w : World} {B g n c : Nat} {zs : List Int} (h : OwI e w B (.slice (some ⟨g, 0, none⟩) n c) zs) : RdI w w.heap.size (some ⟨g, 0, none⟩) zs := by
  obtain ⟨A, c', hv, hr⟩ := h.form
  injection hv with hA _ _
  rw [hA]
  exact hr
theorem zeroI : ∀ w, (zeroValue 2).run Tryz.prog w = .ok (I 0) w := fun w => by kernel_rfl
theorem clearI {w : World} {B g n c a : Nat} {rs : List Int} (h : OwI 2 w B (.slice (some ⟨g, 0, none⟩) n c) rs) (hn : rs.length = n) (ha : a < n) (ty : TypeId) (c' : Nat) :
    ∃ w', (Builtin.clear_ #[39] ty #[.slice (some ⟨g, a, none⟩) (n - a) c']).run Tryz.prog w = .ok (.tuple #[]) w' ∧ OwI 2 w' B (.slice (some ⟨g, 0, none⟩) a c) (rs.take a) ∧ Below B w w' := by
  have hB := (h.spotD (k := a) (by omega)).2.2.2.1
  refine ⟨w.setCells g a (List.replicate (n - a) (I 0)), Lib.run_clear_slice w 39 2 ty (I 0) Tryz.underlying39 zeroI rfl rfl g a (n - a) c' (by omega) ?_ ?_, ?_, ?_⟩
  · intro j hj; rw [(h.spotD (k := a + j) (by omega)).1]; rfl
  · intro j hj; exact (h.spotD (k := a + j) (by omega)).2.1
  · obtain ⟨rs', e1, e2, e3⟩ := h.setCells (List.replicate (n - a) 0) a w rs (by simp; omega)
    rw [List.map_replicate] at e3
    rw [← e2]
    exact e3.cut (by omega)
  · have key : ∀ (L : List Value) (o : Nat) (w' : World), Below B w w' → Below B w (w'.setCells g o L) := by
      intro L
      induction L with
      | nil => intro o w' h; exact h
      | cons v L ih => intro o w' h; exact ih (o + 1) _ (h.setCell hB _)
    exact key _ _ _ (Below.refl _ _)
end Go.Proofs.YtchjegojcpbfpaaGreat

namespace Go.Proofs.YtchjegojcpbfpaaGreat
open Go.RowKit
set_option maxRecDepth 100000
def sel (q : Int → Bool) (n : Nat) : List Int := (ups n).filter q
theorem sel_succ (q : Int → Bool) (n : Nat) : sel q (n + 1) = sel q n ++ (if q n then [(n : Int)] else []) := by
  rw [sel, ups_succ, List.filter_append, sel]
  congr 1
  cases h : q n <;> simp [h]
theorem ups_mem {n : Nat} {z : Int} (h : z ∈ ups n) : ∃ k : Nat, k < n ∧ z = k := by
  simp [ups] at h
  obtain ⟨k, hk, rfl⟩ := h
  exact ⟨k, hk, rfl⟩
theorem six_at {w : World} {g : Nat} {f : M} (hs : Six w g f) : ∀ j, j < 5 → w.cell? ⟨g, 1 + j, none⟩ = some (I (f.at j)) :=
  five (P := fun j => w.cell? ⟨g, 1 + j, none⟩ = some (I (f.at j))) hs.2.1 hs.2.2.1 hs.2.2.2.1 hs.2.2.2.2.1 hs.2.2.2.2.2
end Go.Proofs.YtchjegojcpbfpaaGreat

namespace Go.Proofs.YtchjegojcpbfpaaGreat
open Go.RowKit
set_option maxRecDepth 100000
theorem or_fin : ∀ (m : Fin 32) (a : Fin 5), bits .or .i64 ((m.val : Nat) : Int) (wrap64 (2 ^ a.val)) = ((m.val ||| 2 ^ a.val : Nat) : Int) ∧ m.val ||| 2 ^ a.val < 32 := by decide +kernel
theorem or_run {m a : Nat} (hm : m < 32) (ha : a < 5) : bits .or .i64 (m : Int) (wrap64 (2 ^ a)) = ((m ||| 2 ^ a : Nat) : Int) ∧ m ||| 2 ^ a < 32 := or_fin ⟨m, hm⟩ ⟨a, ha⟩
theorem sel_ext {q q' : Int → Bool} : ∀ {n : Nat}, (∀ k : Nat, k < n → q k = q' k) → sel q n = sel q' n
  | 0, _ => rfl
  | n + 1, h => by rw [sel_succ, sel_succ, sel_ext fun k hk => h k (by omega), h n (by omega)]
def bq (m : Nat) (z : Int) : Bool := m.testBit z.toNat
theorem bq_nat (m k : Nat) : bq m k = m.testBit k := rfl
def pts (m : Nat) : List Int := sel (bq m) 62
def im (f : M) : Nat → Nat
  | 0 => 0
  | k + 1 => im f k ||| 2 ^ (f.at k).toNat
theorem im_lt {f : M} (hf : Valid f) : ∀ k : Nat, (k : Int) ≤ f.p → im f k < 32
  | 0, _ => by simp [im]
  | k + 1, h => by
    have h5 := hf.p5
    have b1 := hf.lo k (by omega) (by omega)
    have b2 := hf.hi k (by omega) (by omega)
    exact (or_run (im_lt hf k (by omega)) (a := (f.at k).toNat) (by omega)).2
theorem im_bit (f : M) (j : Nat) : ∀ k, (im f k).testBit j = true ↔ ∃ i, i < k ∧ (f.at i).toNat = j
  | 0 => by simp [im]
  | k + 1 => by
    rw [im, Nat.testBit_or, Bool.or_eq_true, im_bit f j k, Nat.testBit_two_pow, decide_eq_true_eq]
    constructor
    · rintro (⟨i, hi, e⟩ | e)
      · exact ⟨i, by omega, e⟩
      · exact ⟨k, by omega, e⟩
    · rintro ⟨i, hi, e⟩
      by_cases h : i = k
      · subst h; exact .inr e
      · exact .inl ⟨i, by omega, e⟩
theorem l01Image_any (f : M) (w : World) (hf : Valid f) :
    Calls Tryz.prog 95 #[.agg (mc f)] w fun e w' => e = .returned (I (im f f.p.toNat)) ∧ Below w.heap.size w w' := by
  have hp1 := hf.p1
  have hp5 := hf.p5
  go_enter Tryz.func95, Tryz.ntmps95
  go_wp2
  go_loopw [3, 4] (fun s i wr => ∃ k : Nat, (k : Int) ≤ f.p ∧ s = I (im f k) ∧ i = .int .i64 k ∧ Blk wr w.heap.size 31 (mc f) ∧ Below w.heap.size w wr) (fun _ i _ => 5 - (intOf i).toNat)
  case atStart => exact ⟨0, by omega, rfl, rfl, Blk.new _ _ _, by (repeat (first | with_reducible assumption | with_reducible exact Below.refl _ _ | with_reducible refine Below.setCell ?_ (by first | omega | (simp <;> omega)) _ | with_reducible refine Below.alloc ?_ (by first | omega | (simp <;> omega)) _ | with_reducible refine Below.drew ?_ | with_reducible refine Below.drewN ?_ _))⟩
  case round =>
    obtain ⟨k, hk, rfl, rfl, hB, hbel⟩ := hrel
    have c0 : wr.cell? ⟨w.heap.size, 0, none⟩ = some (I f.p) := hB.cell 0
    by_cases hlt : (k : Int) < f.p
    · have c1 := hB.at_ (k := k) (by omega)
      have b1 := hf.lo k (by omega) hlt
      have b2 := hf.hi k (by omega) hlt
      have ho := (or_run (im_lt hf k hk) (a := (f.at k).toNat) (by omega)).1
      have Hi : Hid (im f (k + 1) = im f k ||| 2 ^ (f.at k).toNat) := rfl
      go_wp2
      go_roundw
      case rel => exact ⟨k + 1, by omega, by rw [Hi.out], by go_num, hB, hbel⟩
      case measure => simp [intOf]; omega
    · obtain rfl : k = f.p.toNat := by omega
      go_wp2
      go_ret
      exact ⟨rfl, hbel⟩
/-! ### cyclic points -/
def back (f : M) (k : Nat) : Nat → Bool
  | 0 => false
  | n + 1 => back f k n || decide (go' f k (n + 1) = k)
end Go.Proofs.YtchjegojcpbfpaaGreat

namespace Go.Proofs
open Go.Shelf
def Tryz.lays125_ren : Go.Shelf.Ren := ⟨fun | 125 => 125 | 128 => 139 | 129 => 140 | n => n, fun | 46 => 82 | 3 => 3 | 51 => 113 | 53 => 103 | 4 => 4 | 5 => 5 | 9 => 9 | n => n, fun | n => n⟩
theorem Tryz.lays125 : Go.Proofs.Lays.n125 Tryz.prog Tryz.lays125_ren := {
  mixed := by kernel_rfl
  f125 := Tryz.func125.trans (congrArg some (by kernel_rfl))
  f128 := Tryz.func139.trans (congrArg some (by kernel_rfl))
  f129 := Tryz.func140.trans (congrArg some (by kernel_rfl))
  t3 := Tryz.underlying3
  a3 := Tryz.isAgg3
  z3 := Tryz.sizeOf3
  v3 := Tryz.zeroValue3
  t4 := Tryz.underlying4
  a4 := Tryz.isAgg4
  z4 := Tryz.sizeOf4
  v4 := Tryz.zeroValue4
  t5 := Tryz.underlying5
  a5 := Tryz.isAgg5
  z5 := Tryz.sizeOf5
  v5 := Tryz.zeroValue5
  t9 := Tryz.underlying9
  a9 := Tryz.isAgg9
  z9 := Tryz.sizeOf9
  v9 := Tryz.zeroValue9
  t46 := Tryz.underlying82
  a46 := Tryz.isAgg82
  z46 := Tryz.sizeOf82
  v46 := Tryz.zeroValue82
  t51 := Tryz.underlying113
  a51 := Tryz.isAgg113
  z51 := Tryz.sizeOf113
  v51 := Tryz.zeroValue113
  t53 := Tryz.underlying103
  a53 := Tryz.isAgg103
  z53 := Tryz.sizeOf103
  v53 := Tryz.zeroValue103 }
theorem Tryz.bits_Len (x : Int) (w : World) (h0 : 0 ≤ x) (h1 : x ≤ 18446744073709551615) :
    Calls Tryz.prog 125 #[.int .u64 x] w fun e w' => e = .returned (.int .i64 (Lib.bitLen x.toNat)) ∧ w' = w := Any.bits_Len Tryz.lays125 x w h0 h1
end Go.Proofs

namespace Go.Proofs.YtchjegojcpbfpaaGreat
open Go.RowKit
set_option maxRecDepth 100000
theorem isNaN_any (x : Int) (w : World) : Calls Tryz.prog 123 #[I x] w fun e w' => e = .returned (.bool false) ∧ w = w' := by
  have h : (x != x) = false := by simp
  go_enter Tryz.func123, Tryz.ntmps123
  go_wp2
  go_ret
  exact ⟨by simp, rfl⟩
theorem less_any (x y : Int) (w : World) : Calls Tryz.prog 153 #[I x, I y] w fun e w' => e = .returned (.bool (decide (x < y))) ∧ w = w' := by
  cases h : decide (x < y)
  · have h' : ¬ x < y := by simpa using h
    go_enter Tryz.func153, Tryz.ntmps153
    go_wp2_with (go_at_call 123; refine (isNaN_any _ _).mono ?_; rintro e w' ⟨rfl, rfl⟩)
    go_ret
    exact ⟨rfl, rfl⟩
  · have h' : x < y := by simpa using h
    go_enter Tryz.func153, Tryz.ntmps153
    go_wp2_with (go_at_call 123; refine (isNaN_any _ _).mono ?_; rintro e w' ⟨rfl, rfl⟩)
    go_ret
    exact ⟨rfl, rfl⟩
def SortedTo (cs : List Int) (i : Nat) : Prop := ∀ a b, a < b → b < i → gi cs a ≤ gi cs b
def Ins (cs : List Int) (i j : Nat) : Prop := (∀ a b, a < b → b ≤ i → a ≠ j → b ≠ j → gi cs a ≤ gi cs b) ∧ ∀ b, j < b → b ≤ i → gi cs j ≤ gi cs b
theorem Ins.start {cs : List Int} {i : Nat} (h : SortedTo cs i) : Ins cs i i := ⟨fun a b hab hb _ hbi => h a b hab (by omega), fun b h1 h2 => by omega⟩
theorem Ins.stop {cs : List Int} {i j : Nat} (h : Ins cs i j) (hs : j = 0 ∨ gi cs (j - 1) ≤ gi cs j) : SortedTo cs (i + 1) := by
  have main : ∀ a b, a < b → b ≤ i → gi cs a ≤ gi cs b := by
    intro a b hab hb
    by_cases h1 : a = j
    · subst h1; exact h.2 b hab hb
    · by_cases h2 : b = j
      · subst h2
        rcases hs with h0 | h0
        · omega
        · by_cases h3 : a = b - 1
          · subst h3; exact h0
          · exact Int.le_trans (h.1 a (b - 1) (by omega) (by omega) h1 (by omega)) h0
      · exact h.1 a b hab hb h1 h2
  exact fun a b hab hb => main a b hab (by omega)
def swapped (cs : List Int) (j : Nat) : List Int := (cs.set j (gi cs (j - 1))).set (j - 1) (gi cs j)
theorem gi_set {cs : List Int} {k j : Nat} {v : Int} (hk : k < cs.length) : gi (cs.set k v) j = if j = k then v else gi cs j := by
  unfold gi
  by_cases h : j = k
  · subst h; simp [List.getD, hk]
  · rw [if_neg h]; simp [List.getD, List.getElem?_set_ne (Ne.symm h)]
theorem gi_swapped {cs : List Int} {j : Nat} (hj : j < cs.length) (h0 : 0 < j) (k : Nat) : gi (swapped cs j) k = if k = j - 1 then gi cs j else if k = j then gi cs (j - 1) else gi cs k := by
  unfold swapped
  rw [gi_set (by simp; omega), gi_set hj]
theorem Ins.step {cs : List Int} {i j : Nat} (h : Ins cs i j) (hj : j < cs.length) (h0 : 0 < j) (hji : j ≤ i) (hlt : gi cs j < gi cs (j - 1)) : Ins (swapped cs j) i (j - 1) := by
  constructor
  · intro a b hab hb ha1 hb1
    rw [gi_swapped hj h0, gi_swapped hj h0, if_neg ha1, if_neg hb1]
    by_cases h1 : a = j
    · subst h1
      rw [if_pos rfl, if_neg (by omega)]
      exact h.1 (a - 1) b (by omega) hb (by omega) (by omega)
    · rw [if_neg h1]
      by_cases h2 : b = j
      · subst h2
        rw [if_pos rfl]
        exact h.1 a (b - 1) (by omega) (by omega) h1 (by omega)
      · rw [if_neg h2]; exact h.1 a b hab hb h1 h2
  · intro b hb1 hb2
    rw [gi_swapped hj h0, gi_swapped hj h0, if_pos rfl, if_neg (by omega)]
    by_cases h2 : b = j
    · rw [if_pos h2]; omega
    · rw [if_neg h2]; exact h.2 b (by omega) hb2
theorem perm_swapped {cs : List Int} {j : Nat} (hj : j < cs.length) (h0 : 0 < j) : (swapped cs j).Perm cs := by
  rw [List.perm_iff_count]
  intro x
  have e1 : gi cs j = cs[j] := gi_eq hj
  have e2 : gi cs (j - 1) = cs[j - 1] := gi_eq (by omega)
  unfold swapped
  rw [List.count_set (by simp; omega), List.count_set hj]
  rw [List.getElem_set_ne (by omega)]
  have hp1 : 0 < cs.count cs[j] := List.count_pos_iff.2 (List.getElem_mem _)
  have hp2 : 0 < cs.count cs[j - 1] := List.count_pos_iff.2 (List.getElem_mem _)
  rw [e1, e2]
  generalize cs[j] = u at *
  generalize cs[j - 1] = v at *
  by_cases c1 : u = x
  · subst c1
    by_cases c2 : v = u
    · subst c2; simp; omega
    · simp [c2]; omega
  · by_cases c2 : v = x
    · subst c2; simp [c1]
    · simp [c1, c2]
theorem drewN_grown {w w' : World} {row : Option Nat} (h : w.grownBy w' row) (n : Nat) : w.grownBy (w'.drewN n) row := ⟨h.os, h.tape, h.output, h.size, h.block⟩
theorem insertion_any (v : Value) (B : Nat) (zs : List Int) (n : Nat) (w : World) (hown : OwI 2 w B v zs) (hn : zs.length = n) (hb : n < 1073741824) :
    Calls Tryz.prog 147 #[v, .int .i64 0, .int .i64 n] w fun e w' => e = .returned (.tuple #[]) ∧ ∃ cs, cs.Perm zs ∧ SortedTo cs n ∧ OwI 2 w' B v cs ∧ w.grownBy w' v.ownBlock := by
  obtain ⟨A, c, rfl, _⟩ := hown.form
  have Hn := Lib.hid hn
  clear hn
  go_enter Tryz.func147, Tryz.ntmps147
  go_wp2
  go_loopw [6] (fun i wr => ∃ k : Nat, 1 ≤ k ∧ (k ≤ n ∨ k = 1) ∧ i = .int .i64 k ∧ ∃ cs : List Int, Hid (cs.Perm zs ∧ SortedTo cs k) ∧ OwI 2 wr B (.slice A zs.length c) cs ∧ w.grownBy wr (Value.slice A zs.length c).ownBlock) (fun i _ => n - (intOf i).toNat)
  case atStart => exact ⟨1, by omega, by omega, rfl, zs, ⟨List.Perm.refl _, fun a b h1 h2 => by omega⟩, hown, World.grownBy.refl w _⟩
  case round =>
    obtain ⟨k, hk1, hk2, rfl, cs, hcs, ho, hg⟩ := hrel
    by_cases hlt : k < n
    · go_wp2_with fail
      have hk3 : k < n := hlt
      clear hlt
      go_loopw [7] (fun jv wq => ∃ j : Nat, j ≤ k ∧ jv = .int .i64 j ∧ ∃ ds : List Int, Hid (ds.Perm zs ∧ Ins ds k j) ∧ OwI 2 wq B (.slice A zs.length c) ds ∧ w.grownBy wq (Value.slice A zs.length c).ownBlock) (fun jv _ => (intOf jv).toNat)
      case atStart => exact ⟨k, by omega, rfl, cs, ⟨hcs.out.1, Ins.start hcs.out.2⟩, ho, hg⟩
      case round =>
        clear ho hg
        obtain ⟨j, hj, rfl, ds, hds, ho, hg⟩ := hrel
        have hlen : ds.length = n := by rw [hds.out.1.length_eq, Hn.out]
        match j, hj, hds with
        | 0, hj, hds =>
          have Hs : Hid (ds.Perm zs ∧ SortedTo ds (k + 1)) := ⟨hds.out.1, hds.out.2.stop (.inl rfl)⟩
          clear hlen
          have hgt : decide ((0 : Int) < 0) = false := by decide
          go_wp2_with fail
          go_quiet ((go_at_call 153; exact Calls.quiet_of_same ((less_any _ _ _).mono fun _ _ h => ⟨h.1, h.2.symm⟩)))
          go_wp2
          go_roundw
          case rel => exact ⟨k + 1, by omega, by omega, by go_num, ds, Hs, ho.drewN _, drewN_grown hg _⟩
          case measure => simp [intOf]; omega
        | q + 1, hj, hds =>
          obtain ⟨g, c', he, hgB, hgl, c1, z1, hs1⟩ := ho.spot (k := q + 1) (by omega)
          obtain ⟨_, _, he', _, _, c2, z2, hs2⟩ := ho.spot (k := q) (by omega)
          injection he with he1 he3 he2
          subst he1 he2
          injection he' with he1 hx1 hx2
          injection he1 with he1
          injection he1 with he1 hx3
          subst he1
          clear hx1 hx2
          have Hlen := Lib.hid hlen
          have H1 := Lib.hid hs1
          have H2 := Lib.hid hs2
          have Ho := Lib.hid ho
          clear hlen hs1 hs2 he3 ho
          have b1 : (0 : Int) < (q : Int) + 1 := by omega
          have b2 : (0 : Int) ≤ (q : Int) + 1 := by omega
          have b3 : (q : Int) + 1 < (zs.length : Int) := by have := Hn.out; omega
          have b4 : (0 : Int) ≤ (q : Int) := by omega
          have b5 : (q : Int) < (zs.length : Int) := by have := Hn.out; omega
          have e1 : ((q : Int) + 1).toNat = q + 1 := by omega
          have e2 : IntKind.i64.wrap ((q : Int) + 1 - 1) = (q : Int) := IntWalk.i64_in _ (by omega) |>.trans (by omega)
          have hgt : decide ((0 : Int) < (q : Int) + 1) = true := decide_eq_true b1
          by_cases hl : gi ds (q + 1) < gi ds q
          · have hlb : decide (gi ds (q + 1) < gi ds q) = true := decide_eq_true hl
            go_wp2_with fail
            go_quiet ((go_at_call 153; exact Calls.quiet_of_same ((less_any _ _ _).mono fun _ _ h => ⟨h.1, h.2.symm⟩)))
            go_wp2_with fail
            have Hs : Hid ((swapped ds (q + 1)).Perm zs ∧ Ins (swapped ds (q + 1)) k q) :=
              ⟨(perm_swapped (by have := Hlen.out; have := Hn.out; omega) (by omega)).trans hds.out.1, hds.out.2.step (by have := Hlen.out; have := Hn.out; omega) (by omega) hj (by simpa using hl)⟩
            go_region
            go_wp2
            go_roundw
            case rel =>
              have h1 := H1.out (gi ds q)
              obtain ⟨g2, _, he2, _, _, _, _, h2⟩ := h1.spot (k := q) (by have := Hlen.out; have := Hn.out; simp; omega)
              injection he2 with he2 _ _
              injection he2 with he2
              injection he2 with he2 _
              subst he2
              exact ⟨q, by omega, by go_num, swapped ds (q + 1), Hs, (h2 (gi ds (q + 1))).of_heap rfl, grownBy_set (grownBy_set (drewN_grown hg _))⟩
            case measure => simp [intOf]
          · have hlb : decide (gi ds (q + 1) < gi ds q) = false := decide_eq_false hl
            have Hs : Hid (ds.Perm zs ∧ SortedTo ds (k + 1)) := ⟨hds.out.1, hds.out.2.stop (.inr (by simpa using hl))⟩
            go_wp2_with fail
            go_quiet ((go_at_call 153; exact Calls.quiet_of_same ((less_any _ _ _).mono fun _ _ h => ⟨h.1, h.2.symm⟩)))
            go_wp2
            go_roundw
            case rel => exact ⟨k + 1, by omega, by omega, by go_num, ds, Hs, Ho.out.drewN _, drewN_grown hg _⟩
            case measure => simp [intOf]; omega
    · have Hfin : Hid (cs.Perm zs ∧ SortedTo cs n) := ⟨hcs.out.1, fun a b h1 h2 => hcs.out.2 a b h1 (by omega)⟩
      go_wp2
      go_end0
      exact ⟨rfl, cs, Hfin.out.1, Hfin.out.2, ho, hg⟩
theorem pdq_any (v : Value) (B : Nat) (zs : List Int) (n : Nat) (lim : Int) (w : World) (hown : OwI 2 w B v zs) (hn : zs.length = n) (hb : n ≤ 12) :
    Calls Tryz.prog 141 #[v, .int .i64 0, .int .i64 n, .int .i64 lim] w fun e w' => e = .returned (.tuple #[]) ∧ ∃ cs, cs.Perm zs ∧ SortedTo cs n ∧ OwI 2 w' B v cs ∧ w.grownBy w' v.ownBlock := by
  have Hn := Lib.hid hn
  have Ho := Lib.hid hown
  clear hn hown
  have h1 : (n : Int) ≤ 12 := by omega
  go_enter Tryz.func141, Tryz.ntmps141
  go_wp2_with fail
  refine wp_loop_rounds 1 ?_
  rw [rounds_succ]
  go_wp2_with fail
  refine (insertion_any v B zs n _ Ho.out Hn.out (by omega)).mono ?_
  rintro e w1 ⟨rfl, H⟩
  have HH := Lib.hid H
  clear H
  go_wp2
  exact bodyPost_ret (v := .tuple #[]) (by simp [results, Tryz.results141, go_sem]) rfl ⟨rfl, HH.out⟩
theorem sortI_any (v : Value) (B : Nat) (zs : List Int) (w : World) (hown : OwI 2 w B v zs) (hb : zs.length ≤ 12) :
    Calls Tryz.prog 127 #[v] w fun e w' => e = .returned (.tuple #[]) ∧ ∃ cs, cs.Perm zs ∧ SortedTo cs zs.length ∧ OwI 2 w' B v cs ∧ w.grownBy w' v.ownBlock := by
  obtain ⟨A, c, rfl, _⟩ := hown.form
  have Ho := Lib.hid hown
  clear hown
  have h0 : (0 : Int) ≤ (zs.length : Int) := by omega
  have h1 : (zs.length : Int) ≤ 12 := by omega
  go_enter Tryz.func127, Tryz.ntmps127
  go_wp2_with fail
  refine (Tryz.bits_Len (zs.length : Int) _ (by omega) (by omega)).mono ?_
  rintro e w1 ⟨rfl, rfl⟩
  go_wp2_with fail
  refine (pdq_any _ B zs zs.length _ _ Ho.out rfl hb).mono ?_
  rintro e w2 ⟨rfl, H⟩
  have HH := Lib.hid H
  clear H
  go_wp2
  go_end0
  exact ⟨rfl, HH.out⟩
end Go.Proofs.YtchjegojcpbfpaaGreat

namespace Go.Proofs.YtchjegojcpbfpaaGreat
open Go.RowKit
def dd : List Int → List Int
  | [] => []
  | [x] => [x]
  | x :: y :: r => if x = y then dd (y :: r) else x :: dd (y :: r)
theorem dd_mem {z : Int} : ∀ l : List Int, z ∈ dd l ↔ z ∈ l
  | [] => Iff.rfl
  | [x] => Iff.rfl
  | x :: y :: r => by
    rw [dd]
    split
    · rename_i h
      rw [dd_mem (y :: r), h]
      simp
    · rw [List.mem_cons, dd_mem (y :: r)]; simp
theorem dd_strict : ∀ {l : List Int}, l.Pairwise (· ≤ ·) → (dd l).Pairwise (· < ·)
  | [], _ => List.Pairwise.nil
  | [x], _ => by simp [dd]
  | x :: y :: r, h => by
    have h2 := List.pairwise_cons.1 h
    rw [dd]
    split
    · exact dd_strict h2.2
    · rename_i hne
      refine List.pairwise_cons.2 ⟨fun z hz => ?_, dd_strict h2.2⟩
      rw [dd_mem] at hz
      have h3 := h2.1 y (by simp)
      have h4 : y ≤ z := by
        rcases List.mem_cons.1 hz with rfl | hz
        · exact Int.le_refl _
        · exact (List.pairwise_cons.1 h2.2).1 z hz
      omega
theorem strict_ext : ∀ {a b : List Int}, a.Pairwise (· < ·) → b.Pairwise (· < ·) → (∀ z, z ∈ a ↔ z ∈ b) → a = b
  | [], [], _, _, _ => rfl
  | [], y :: b, _, _, h => by have := (h y).2 (by simp); simp at this
  | x :: a, [], _, _, h => by have := (h x).1 (by simp); simp at this
  | x :: a, y :: b, ha, hb, h => by
    have ha2 := List.pairwise_cons.1 ha
    have hb2 := List.pairwise_cons.1 hb
    have hxy : x = y := by
      have h1 := (h x).1 (by simp)
      have h2 := (h y).2 (by simp)
      rcases List.mem_cons.1 h1 with e | h1
      · exact e
      · rcases List.mem_cons.1 h2 with e | h2
        · exact e.symm
        · have := hb2.1 x h1; have := ha2.1 y h2; omega
    subst hxy
    rw [strict_ext ha2.2 hb2.2 fun z => ?_]
    constructor
    · intro hz
      rcases List.mem_cons.1 ((h z).1 (List.mem_cons_of_mem _ hz)) with e | h1
      · have := ha2.1 z hz; omega
      · exact h1
    · intro hz
      rcases List.mem_cons.1 ((h z).2 (List.mem_cons_of_mem _ hz)) with e | h1
      · have := hb2.1 z hz; omega
      · exact h1
theorem dd_snoc (x : Int) : ∀ {l : List Int}, l ≠ [] → dd (l ++ [x]) = if l.getLast? = some x then dd l else dd l ++ [x]
  | [], h => absurd rfl h
  | [y], _ => by
    simp only [List.cons_append, List.nil_append, dd, List.getLast?_singleton, Option.some.injEq]
    split <;> simp_all
  | y :: z :: r, _ => by
    have ih := dd_snoc x (l := z :: r) (by simp)
    simp only [List.cons_append] at ih ⊢
    rw [dd, dd, ih]
    have hl : (y :: z :: r).getLast? = (z :: r).getLast? := by simp [List.getLast?_cons_cons]
    rw [hl]
    split <;> split <;> simp
end Go.Proofs.YtchjegojcpbfpaaGreat

namespace Go.Proofs.YtchjegojcpbfpaaGreat
open Go.RowKit
set_option maxRecDepth 100000
theorem last_take {zs : List Int} {k : Nat} (h0 : 0 < k) (hk : k ≤ zs.length) : (zs.take k).getLast? = some (gi zs (k - 1)) := by
  rw [List.getLast?_eq_getElem?, List.length_take, Nat.min_eq_left hk, List.getElem?_take, if_pos (by omega), List.getElem?_eq_getElem (by omega), gi_eq (by omega)]
theorem dd_take {zs : List Int} {k : Nat} (h0 : 0 < k) (hk : k < zs.length) : dd (zs.take (k + 1)) = if gi zs (k - 1) = gi zs k then dd (zs.take k) else dd (zs.take k) ++ [gi zs k] := by
  have e : zs.take (k + 1) = zs.take k ++ [gi zs k] := by
    rw [List.take_add_one, List.getElem?_eq_getElem hk, gi_eq hk]; rfl
  rw [e, dd_snoc _ (by intro h; have h' := congrArg List.length h; rw [List.length_take, List.length_nil] at h'; omega), last_take h0 (by omega)]
  simp
theorem compact_any (g n c B : Nat) (zs : List Int) (w : World) (ho : OwI 2 w B (.slice (some ⟨g, 0, none⟩) n c) zs) (hb : n < 1073741824) :
    Calls Tryz.prog 128 #[.slice (some ⟨g, 0, none⟩) n c] w fun e w' => ∃ v, e = .returned v ∧ OwI 2 w' B v (dd zs) ∧ Below B w w' := by
  have hcap := ho.cap
  have Hn := Lib.hid hcap.1
  have hnc := hcap.2
  clear hcap
  by_cases h2 : n < 2
  · have Hr : Hid (dd zs = zs) := by
      have := Hn.out
      match zs, this with
      | [], _ => rfl
      | [_], _ => rfl
      | _ :: _ :: _, h => simp at h; omega
    go_enter Tryz.func128, Tryz.ntmps128
    go_wp2
    go_ret
    exact ⟨_, rfl, by rw [Hr.out]; exact ho, Below.refl _ _⟩
  · go_enter Tryz.func128, Tryz.ntmps128
    go_wp2_with fail
    go_loopw [3] (fun i wr => ∃ k : Nat, 1 ≤ k ∧ k ≤ n ∧ i = .int .i64 k ∧ Hid (dd (zs.take k) = zs.take k) ∧ OwI 2 wr B (.slice (some ⟨g, 0, none⟩) n c) zs ∧ Below B w wr) (fun i _ => n - (intOf i).toNat)
    case atStart =>
      refine ⟨1, by omega, by omega, rfl, ?_, ho, Below.refl _ _⟩
      show _ = _
      match zs, Hn.out with
      | [], _ => rfl
      | _ :: _, _ => rfl
    case round =>
      clear ho
      obtain ⟨k, hk1, hk, rfl, hd, ho, hbel⟩ := hrel
      by_cases hlt : k < n
      · obtain ⟨c1, _⟩ := ho.spotD (k := k) (by rw [Hn.out]; exact hlt)
        obtain ⟨c2, _⟩ := ho.spotD (k := k - 1) (by rw [Hn.out]; omega)
        have hwk : IntKind.i64.wrap ((k : Int) - 1) = ((k - 1 : Nat) : Int) := by rw [IntWalk.i64_in _ ⟨by omega, by omega⟩]; omega
        have i0 : (0 : Int) ≤ (k : Int) := by omega
        have i1 : (k : Int) < (n : Int) := by omega
        have i2 : (0 : Int) ≤ ((k - 1 : Nat) : Int) := by omega
        have i3 : ((k - 1 : Nat) : Int) < (n : Int) := by omega
        have hdt := dd_take (zs := zs) (k := k) (by omega) (by rw [Hn.out]; exact hlt)
        have Hdt := Lib.hid hdt
        clear hdt
        by_cases he : gi zs (k - 1) = gi zs k
        · have heb : (gi zs k == gi zs (k - 1)) = true := by rw [he]; simp
          have Hx : Hid (dd (zs.take (k + 1)) = zs.take k) := by show _ = _; rw [Hdt.out, if_pos he, hd.out]
          clear he
          go_wp2_with fail
          go_quiet (fail)
          have ho2 := ho.drewN nq
          have hbel2 := hbel.drewN nq
          generalize wr.drewN nq = w2 at ho2 hbel2 ⊢
          clear ho hbel c1 c2
          go_wp2_with fail
          go_loopw [3, 5] (fun i j wq => ∃ (a m : Nat) (rs : List Int), i = .int .i64 a ∧ j = .int .i64 m ∧ 1 ≤ m ∧ m ≤ n - k ∧ a < k + m ∧ 1 ≤ a ∧ Hid (rs.length = n ∧ rs.take a = dd (zs.take (k + m)) ∧ ∀ t, k + m - 1 ≤ t → t < n → gi rs t = gi zs t) ∧ OwI 2 wq B (.slice (some ⟨g, 0, none⟩) n c) rs ∧ Below B w wq) (fun _ j _ => n - (intOf j).toNat)
          case atStart => exact ⟨k, 1, zs, rfl, rfl, by omega, by omega, by omega, by omega, ⟨Hn.out, Hx.out.symm, fun _ _ _ => rfl⟩, ho2, hbel2⟩
          case round =>
            clear ho2 hbel2
            obtain ⟨a, m, rs, rfl, rfl, hm1, hmn, ham, ha1, Hy, hor, hbel⟩ := hrel
            by_cases hlm : m < n - k
            · obtain ⟨c1, _⟩ := hor.spotD (k := k + m) (by rw [Hy.out.1]; omega)
              obtain ⟨c2, _⟩ := hor.spotD (k := k + (m - 1)) (by rw [Hy.out.1]; omega)
              rw [Hy.out.2.2 (k + m) (by omega) (by omega)] at c1
              rw [Hy.out.2.2 (k + (m - 1)) (by omega) (by omega)] at c2
              have hwm : IntKind.i64.wrap ((m : Int) - 1) = ((m - 1 : Nat) : Int) := by rw [IntWalk.i64_in _ ⟨by omega, by omega⟩]; omega
              have j0 : (0 : Int) ≤ (m : Int) := by omega
              have j1 : (m : Int) < ((n - k : Nat) : Int) := by omega
              have j2 : (0 : Int) ≤ ((m - 1 : Nat) : Int) := by omega
              have j3 : ((m - 1 : Nat) : Int) < ((n - k : Nat) : Int) := by omega
              have hdm := dd_take (zs := zs) (k := k + m) (by omega) (by rw [Hn.out]; omega)
              rw [show k + m - 1 = k + (m - 1) by omega] at hdm
              have Hdm := Lib.hid hdm
              clear hdm
              by_cases he2 : gi zs (k + (m - 1)) = gi zs (k + m)
              · have heb2 : (gi zs (k + m) != gi zs (k + (m - 1))) = false := by rw [he2]; simp
                have Hz : Hid (rs.length = n ∧ rs.take a = dd (zs.take (k + (m + 1))) ∧ ∀ t, k + (m + 1) - 1 ≤ t → t < n → gi rs t = gi zs t) :=
                  ⟨Hy.out.1, by rw [← Nat.add_assoc, Hdm.out, if_pos he2]; exact Hy.out.2.1, fun t h1 h2 => Hy.out.2.2 t (by omega) h2⟩
                clear he2
                go_wp2_with fail
                go_quiet (fail)
                go_wp2
                go_roundw
                case rel => exact ⟨a, m + 1, rs, rfl, by go_num, by omega, by omega, by omega, ha1, Hz, hor.drewN _, hbel.drewN _⟩
                case measure => simp [intOf]; omega
              · have heb2 : (gi zs (k + m) != gi zs (k + (m - 1))) = true := by simpa using fun h => he2 h.symm
                obtain ⟨c3, z3, hgl, hBg, hst⟩ := hor.spotD (k := a) (by rw [Hy.out.1]; omega)
                have Hz : Hid ((rs.set a (gi zs (k + m))).length = n ∧ (rs.set a (gi zs (k + m))).take (a + 1) = dd (zs.take (k + (m + 1))) ∧ ∀ t, k + (m + 1) - 1 ≤ t → t < n → gi (rs.set a (gi zs (k + m))) t = gi zs t) := by
                  refine ⟨by simp [Hy.out.1], ?_, fun t h1 h2 => ?_⟩
                  · rw [← Nat.add_assoc, Hdm.out, if_neg he2, ← Hy.out.2.1, List.take_add_one, List.take_set_of_le (Nat.le_refl _)]
                    simp [show a < rs.length by rw [Hy.out.1]; omega]
                  · rw [← Hy.out.2.2 t (by omega) h2]
                    unfold gi
                    simp [List.getD, show ¬ a = t by omega]
                have Hst := Lib.hid (fun nq => (hor.drewN nq).spotD (k := a) (by rw [Hy.out.1]; omega))
                have k0 : (0 : Int) ≤ (a : Int) := by omega
                have k1 : (a : Int) < (n : Int) := by omega
                clear he2 hst
                go_wp2_with fail
                go_quiet (fail)
                go_wp2
                go_roundw
                case rel => exact ⟨a + 1, m + 1, _, by go_num, by go_num, by omega, by omega, by omega, by omega, Hz, (Hst.out _).2.2.2.2 _, (hbel.drewN _).setCell hBg _⟩
                case measure => simp [intOf]; omega
            · obtain rfl : m = n - k := by omega
              have Hres : Hid (dd zs = rs.take a) := by
                show _ = _
                rw [Hy.out.2.1, show k + (n - k) = n by omega, ← Hn.out, List.take_length]
              obtain ⟨w9, hcl, ho9, hb9⟩ := clearI hor Hy.out.1 (a := a) (by omega) 0 (c - a)
              have hbel9 := hbel.trans hb9
              have k0 : (0 : Int) ≤ (a : Int) := by omega
              have k1 : (a : Int) < (n : Int) := by omega
              clear hb9 hor hbel
              go_wp2
              go_ret
              exact ⟨_, rfl, by rw [Hres.out]; exact ho9, hbel9⟩
        · have heb : (gi zs k == gi zs (k - 1)) = false := by rw [beq_eq_false_iff_ne]; exact fun h => he h.symm
          have Hx : Hid (dd (zs.take (k + 1)) = zs.take (k + 1)) := by
            show _ = _
            rw [Hdt.out, if_neg he, hd.out, List.take_add_one, List.getElem?_eq_getElem (by rw [Hn.out]; exact hlt), gi_eq (by rw [Hn.out]; exact hlt)]; rfl
          clear he
          go_wp2_with fail
          go_quiet (fail)
          go_wp2
          go_roundw
          case rel => exact ⟨k + 1, by omega, by omega, by go_num, Hx, ho.drewN _, hbel.drewN _⟩
          case measure => simp [intOf]; omega
      · obtain rfl : k = n := by omega
        have Hr : Hid (dd zs = zs) := by
          have := hd.out
          rwa [← Hn.out, List.take_length] at this
        go_wp2
        go_ret
        exact ⟨_, rfl, by rw [Hr.out]; exact ho, hbel⟩
end Go.Proofs.YtchjegojcpbfpaaGreat

namespace Go.Proofs.YtchjegojcpbfpaaGreat
open Go.RowKit
set_option maxRecDepth 100000
def led (f : M) (zs : List Int) : List Int := zs.map fun z => f.at z.toNat
theorem led_length (f : M) (zs : List Int) : (led f zs).length = zs.length := by simp [led]
theorem led_snoc {f : M} {zs : List Int} {k : Nat} (hk : k < zs.length) : led f (zs.take (k + 1)) = led f (zs.take k) ++ [f.at (gi zs k).toNat] := by
  rw [List.take_add_one, List.getElem?_eq_getElem hk, led, led, gi_eq hk, List.map_append]; rfl
def imQ (f : M) (zs : List Int) (z : Int) : Bool := decide (z ∈ led f zs)
theorem ups_strict : ∀ n, (ups n).Pairwise (· < ·)
  | 0 => List.Pairwise.nil
  | n + 1 => by
    rw [ups_succ, List.pairwise_append]
    refine ⟨ups_strict n, by simp, fun a ha b hb => ?_⟩
    obtain ⟨k, hk, rfl⟩ := ups_mem ha
    simp at hb; omega
theorem sel_strict (q : Int → Bool) (n : Nat) : (sel q n).Pairwise (· < ·) := (ups_strict n).filter q
theorem sel_mem {q : Int → Bool} {n : Nat} {z : Int} : z ∈ sel q n ↔ (∃ k : Nat, k < n ∧ z = k) ∧ q z = true := by
  rw [sel, List.mem_filter]
  constructor
  · rintro ⟨h1, h2⟩; exact ⟨ups_mem h1, h2⟩
  · rintro ⟨⟨k, hk, rfl⟩, h2⟩; exact ⟨by simp [ups]; exact ⟨k, hk, rfl⟩, h2⟩
theorem sorted_pair {cs : List Int} (h : SortedTo cs cs.length) : cs.Pairwise (· ≤ ·) := by
  rw [List.pairwise_iff_getElem]
  intro i j hi hj hij
  have := h i j hij hj
  rwa [gi_eq hi, gi_eq hj] at this
theorem dd_img {f : M} {zs cs : List Int} {N : Nat} (hp : cs.Perm (led f zs)) (hs : SortedTo cs cs.length) (hbd : ∀ z, z ∈ led f zs → 0 ≤ z ∧ z < N) : dd cs = sel (imQ f zs) N := by
  refine strict_ext (dd_strict (sorted_pair hs)) (sel_strict _ _) fun z => ?_
  rw [dd_mem, sel_mem, hp.mem_iff]
  constructor
  · intro h
    have := hbd z h
    exact ⟨⟨z.toNat, by omega, by omega⟩, by simp [imQ, h]⟩
  · rintro ⟨_, h⟩; simpa [imQ] using h
theorem compact_nil (w : World) : Calls Tryz.prog 128 #[.slice none 0 0] w fun e w' => e = .returned (.slice none 0 0) ∧ w = w' := by
  go_enter Tryz.func128, Tryz.ntmps128
  go_wp2
  go_ret
  exact ⟨rfl, rfl⟩
theorem compact_all (v : Value) (B : Nat) (zs : List Int) (w : World) (ho : OwI 2 w B v zs) (hb : zs.length < 1073741824) :
    Calls Tryz.prog 128 #[v] w fun e w' => ∃ v', e = .returned v' ∧ OwI 2 w' B v' (dd zs) ∧ Below B w w' := by
  rcases ho.2 with ⟨rfl, h0⟩ | ⟨g, cap, cur, rfl, _⟩
  · obtain rfl : zs = [] := List.eq_nil_of_length_eq_zero h0
    refine (compact_nil w).mono ?_
    rintro e w' ⟨rfl, rfl⟩
    exact ⟨_, rfl, ho, Below.refl _ _⟩
  · exact compact_any g zs.length cap B zs w ho hb
theorem image_any (f : M) (A : Option Addr) (n c : Nat) (zs : List Int) (w : World) (hv : Valid f) (hx : RdI w w.heap.size A zs) (hn : zs.length = n) (hb : n ≤ 12) (hbd : ∀ j, j < zs.length → 0 ≤ gi zs j ∧ gi zs j < f.p) :
    Calls Tryz.prog 115 #[.agg (mc f), .slice A n c] w fun e w' => ∃ v, e = .returned v ∧ OwI 2 w' w.heap.size v (sel (imQ f zs) 5) ∧ Below w.heap.size w w' := by
  have hp1 := hv.p1
  have hp5 := hv.p5
  have Hn := Lib.hid hn
  have Hx := Lib.hid hx
  have Hd := Lib.hid hbd
  clear hn hx hbd
  have HX : Hid (∀ w', Below w.heap.size w w' → RdI w' w.heap.size A zs) := fun w' hb => Hx.out.below hb
  go_enter Tryz.func115, Tryz.ntmps115
  go_wp2
  go_loopw [5, 10] (fun v i wr => ∃ k : Nat, k ≤ n ∧ i = .int .i64 k ∧ OwI 2 wr (w.heap.size + 1) v (led f (zs.take k)) ∧ Six wr w.heap.size f ∧ Below w.heap.size w wr) (fun _ i _ => n - (intOf i).toNat)
  case atStart => exact ⟨0, by omega, rfl, OwI.nil_, Blk.six (Blk.new _ _ _), by (repeat (first | with_reducible assumption | with_reducible exact Below.refl _ _ | with_reducible refine Below.setCell ?_ (by first | omega | (simp <;> omega)) _ | with_reducible refine Below.alloc ?_ (by first | omega | (simp <;> omega)) _ | with_reducible refine Below.drew ?_ | with_reducible refine Below.drewN ?_ _))⟩
  case round =>
    obtain ⟨k, hk, rfl, ho, hs, hbel⟩ := hrel
    obtain ⟨S, d, hv', _⟩ := ho.form
    have hlen : (led f (zs.take k)).length = k := by rw [led_length, List.length_take, Hn.out]; omega
    rw [hlen] at hv'
    subst hv'
    have Hlen := Lib.hid hlen
    have hsz := hbel.size
    have hsl := hs.lt
    clear hlen
    by_cases hlt : k < n
    · obtain ⟨b, off, rfl, hbb, c1⟩ := RdI.at_ (HX.out _ hbel) (k := k) (by rw [Hn.out]; exact hlt)
      obtain ⟨b1, b2⟩ := Hd.out k (by rw [Hn.out]; exact hlt)
      have c2 := six_at hs (gi zs k).toNat (by omega)
      have hb5 : gi zs k < 5 := by omega
      have Hls := Lib.hid (led_snoc (f := f) (zs := zs) (k := k) (by rw [Hn.out]; exact hlt))
      go_wp2_with (at_builtin; refine wpList_pushI rfl (.tmp 14) (.tmp 19) rfl (w.heap.size + 1) (.slice S k d) (led f (zs.take k)) rfl (ho.alloc _) wr.heap.size 1 (f.at (gi zs k).toNat) rfl ((Blk.new _ _ _).cell 0) (by rw [Hlen.out]; omega) (by simp; omega) (wr.heap.size + 1) (by simp) ?_; intro g' cap w4 ho' hgr hg' hlt')
      go_roundw
      case rel => exact ⟨k + 1, by omega, by go_num, by rw [Hls.out]; simpa [Hlen.out] using ho', (hs.alloc _).grown hgr (ho.ne (by omega)), (ho.alloc _).bel (hbel.alloc hsz _) hgr (by omega) (by simp; omega)⟩
      case measure => simp [intOf]; omega
    · obtain rfl : k = n := by omega
      have e : zs.take k = zs := by rw [← Hn.out, List.take_length]
      rw [e] at ho Hlen
      clear e
      go_wp2_with fail
      refine (sortI_any _ (w.heap.size + 1) (led f zs) _ ho (by rw [Hlen.out]; omega)).mono ?_
      rintro e w2 ⟨rfl, cs, hp, hsd, ho2, hg⟩
      have hcl : cs.length = k := by rw [hp.length_eq, Hlen.out]
      have Hdd : Hid (dd cs = sel (imQ f zs) 5) := dd_img hp (by rw [hp.length_eq]; exact hsd) (by
        intro z hz
        simp [led] at hz
        obtain ⟨y, hy, rfl⟩ := hz
        obtain ⟨j, hj, e⟩ := List.getElem_of_mem hy
        have := Hd.out j hj
        rw [gi_eq hj, e] at this
        have h1 := hv.lo y.toNat (by omega) (by omega)
        have h2 := hv.hi y.toNat (by omega) (by omega)
        omega)
      have hbel2 := ho.bel hbel hg (by omega) (by omega)
      have hcl2 : cs.length < 1073741824 := by omega
      clear hp hsd hg ho hcl
      go_wp2_with fail
      refine (compact_all _ (w.heap.size + 1) cs _ ho2 hcl2).mono ?_
      rintro e w3 ⟨v', rfl, ho3, hb3⟩
      rw [Hdd.out] at ho3
      have Ho := Lib.hid (ho3.mono (B' := w.heap.size) (by omega))
      have hbel3 := hbel2.trans (hb3.mono (by omega))
      clear ho2 ho3 hb3 hbel2
      go_wp2
      go_ret
      exact ⟨_, rfl, Ho.out, hbel3⟩
end Go.Proofs.YtchjegojcpbfpaaGreat

namespace Go.Proofs.YtchjegojcpbfpaaGreat
open Go.RowKit
set_option maxRecDepth 100000
def rk (f : M) : Nat := (sel (imQ f (ups f.p.toNat)) 5).length
theorem imQ_ups {f : M} {n : Nat} {k : Nat} : imQ f (ups n) k = true ↔ ∃ i, i < n ∧ f.at i = k := by
  rw [imQ, decide_eq_true_eq, led, List.mem_map]
  constructor
  · rintro ⟨z, hz, e⟩
    obtain ⟨i, hi, rfl⟩ := ups_mem hz
    exact ⟨i, hi, by simpa using e⟩
  · rintro ⟨i, hi, e⟩
    exact ⟨(i : Int), by simp [ups]; exact ⟨i, hi, rfl⟩, by simpa using e⟩
def onesN (m : Nat) : Nat := m % 2 + m / 2 % 2 + m / 4 % 2 + m / 8 % 2 + m / 16 % 2
theorem ones_fin : ∀ m : Fin 32, (sel (bq m.val) 5).length = onesN m.val := by decide +kernel
theorem ones_step {m : Nat} (h : m < 32) : onesN m = m % 2 + onesN (m / 2) := by unfold onesN; omega
theorem ones_le (m : Nat) : onesN m ≤ 5 := by unfold onesN; omega
theorem rk_im {f : M} (hf : Valid f) : onesN (im f f.p.toNat) = rk f := by
  have h5 := hf.p5
  have hlt := im_lt hf f.p.toNat (by have := hf.p1; omega)
  rw [← ones_fin ⟨_, hlt⟩, rk]
  congr 1
  refine sel_ext fun k hk => ?_
  rw [Bool.eq_iff_iff, bq_nat, im_bit, imQ_ups]
  constructor
  · rintro ⟨i, hi, e⟩; exact ⟨i, hi, by have := hf.lo i (by omega) (by omega); omega⟩
  · rintro ⟨i, hi, e⟩; exact ⟨i, hi, by omega⟩
theorem l01Ones_any (m : Nat) (w : World) (hm : m < 32) :
    Calls Tryz.prog 94 #[I m] w fun e w' => e = .returned (I (onesN m)) ∧ w = w' := by
  go_enter Tryz.func94, Tryz.ntmps94
  go_wp2
  go_loop [0, 3] (fun n c => ∃ j k : Nat, n = .int .i64 j ∧ c = .int .i64 k ∧ j < 32 ∧ Hid (k + onesN j = onesN m)) (fun n _ => (intOf n).toNat)
  case atStart => exact ⟨m, 0, rfl, rfl, hm, by show _ = _; omega⟩
  case round =>
    obtain ⟨j, k, rfl, rfl, hj, H⟩ := hrel
    have hk5 : k ≤ 5 := by have := H.out; have := ones_le m; omega
    by_cases hz : 0 < j
    · have hd : (j : Int).tdiv 2 = ((j / 2 : Nat) : Int) := by rw [Int.tdiv_eq_ediv_of_nonneg (by omega)]; omega
      have hr : (j : Int).tmod 2 = ((j % 2 : Nat) : Int) := by rw [Int.tmod_eq_emod_of_nonneg (by omega)]; omega
      have Hs : Hid (k + j % 2 + onesN (j / 2) = onesN m) := by have := H.out; have := ones_step hj; show _ = _; omega
      have hz2 : (0 : Int) < (j : Int) := by omega
      go_wp2
      go_round
      case rel => exact ⟨j / 2, k + j % 2, by go_num, by go_num, by omega, Hs.out⟩
      case measure => simp [intOf]; omega
    · obtain rfl : j = 0 := by omega
      have Hr : Hid ((k : Int) = (onesN m : Int)) := by have := H.out; have h0 : onesN 0 = 0 := rfl; show _ = _; omega
      go_wp2
      go_ret
      exact ⟨ret_int Hr.out, rfl⟩
theorem l01Rank_any (f : M) (w : World) (hf : Valid f) :
    Calls Tryz.prog 53 #[.agg (mc f)] w fun e w' => e = .returned (I (rk f)) ∧ Below w.heap.size w w' := by
  have Hr := Lib.hid (rk_im hf)
  have hlt := im_lt hf f.p.toNat (by have := hf.p1; omega)
  go_enter Tryz.func53, Tryz.ntmps53
  go_wp2_with fail
  refine (l01Image_any f _ hf).mono ?_
  rintro e w1 ⟨rfl, hb⟩
  have hl : Below w.heap.size w w1 := Below.trans (by (repeat (first | with_reducible assumption | with_reducible exact Below.refl _ _ | with_reducible refine Below.setCell ?_ (by first | omega | (simp <;> omega)) _ | with_reducible refine Below.alloc ?_ (by first | omega | (simp <;> omega)) _ | with_reducible refine Below.drew ?_ | with_reducible refine Below.drewN ?_ _))) (hb.mono (by simp <;> omega))
  go_wp2_with fail
  refine (l01Ones_any _ _ hlt).mono ?_
  rintro e w2 ⟨rfl, rfl⟩
  go_wp2
  go_ret
  exact ⟨by rw [Hr.out] <;> rfl, hl⟩
set_option maxHeartbeats 1000000 in
theorem rank_any (f : M) (w : World) (hv : Valid f) :
    Calls Tryz.prog 79 #[.agg (mc f)] w fun e w' => e = .returned (I (rk f)) ∧ Below w.heap.size w w' := by
  have hp1 := hv.p1
  have hp5 := hv.p5
  obtain ⟨n, hn⟩ : ∃ n : Nat, n = f.p.toNat := ⟨_, rfl⟩
  have hfp : f.p = (n : Int) := by omega
  have Hrk : Hid (rk f = (sel (imQ f (ups n)) 5).length) := by show _ = _; rw [hn]; rfl
  have hpt := fun w' => points_any n w' (by omega)
  rw [← hfp] at hpt
  have Hpt := Lib.hid hpt
  have hn1 : 1 ≤ n := by omega
  have hn5 : n ≤ 5 := by omega
  have Hbd : Hid (∀ j, j < (ups n).length → 0 ≤ gi (ups n) j ∧ gi (ups n) j < f.p) := by
    intro j hj
    rw [ups_length] at hj
    rw [gi_ups hj]
    omega
  clear hpt hfp hn
  go_enter Tryz.func79, Tryz.ntmps79
  go_wp2_with fail
  go_region_with (first
    | (go_at_call 68
       refine (Hpt.out _).mono ?_
       rintro e w1 ⟨v, rfl, ho, hb⟩
       have hB1 : Six w1 w.heap.size f := Six.below (Blk.six (Blk.drew (Blk.new w _ _))) hb (by simp)
       have hbel : Below w.heap.size w w1 := Below.trans (by (repeat (first | with_reducible assumption | with_reducible exact Below.refl _ _ | with_reducible refine Below.setCell ?_ (by first | omega | (simp <;> omega)) _ | with_reducible refine Below.alloc ?_ (by first | omega | (simp <;> omega)) _ | with_reducible refine Below.drew ?_ | with_reducible refine Below.drewN ?_ _))) (hb.mono (by simp <;> omega))
       obtain ⟨A, c, hv', hr⟩ := ho.form
       rw [ups_length] at hv'
       subst hv'
       clear hb ho)
    | (go_at_call 115
       refine (image_any f A n c (ups n) _ hv hr (ups_length n) (by omega) Hbd.out).mono ?_
       rintro e w2 ⟨v, rfl, ho, hb⟩
       replace hbel := hbel.trans (hb.mono hbel.size)
       obtain ⟨A2, c2, hv', _⟩ := ho.form
       rw [← Hrk.out] at hv'
       subst hv'
       clear hb ho))
  all_goals
    go_wp2
    go_ret
    exact ⟨rfl, hbel⟩
theorem isPerm_any (f : M) (w : World) (hv : Valid f) :
    Calls Tryz.prog 51 #[.agg (mc f)] w fun e w' => e = .returned (.bool (decide ((rk f : Int) = f.p))) ∧ Below w.heap.size w w' := by
  go_enter Tryz.func51, Tryz.ntmps51
  go_wp2_with fail
  go_region_with (
       go_at_call 79
       refine (rank_any f _ hv).mono ?_
       rintro e w1 ⟨rfl, hb⟩
       have hB1 : Six w1 w.heap.size f := Six.below (Blk.six (Blk.drew (Blk.new w _ _))) hb (by simp)
       have hbel : Below w.heap.size w w1 := Below.trans (by (repeat (first | with_reducible assumption | with_reducible exact Below.refl _ _ | with_reducible refine Below.setCell ?_ (by first | omega | (simp <;> omega)) _ | with_reducible refine Below.alloc ?_ (by first | omega | (simp <;> omega)) _ | with_reducible refine Below.drew ?_ | with_reducible refine Below.drewN ?_ _))) (hb.mono (by simp <;> omega))
       clear hb)
  all_goals
    go_wp2
    go_ret
    exact ⟨ret_bool (by first | rfl | simp), hbel⟩
/-! ### inverses -/
end Go.Proofs.YtchjegojcpbfpaaGreat
