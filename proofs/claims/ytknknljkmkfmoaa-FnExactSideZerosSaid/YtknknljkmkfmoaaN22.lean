/- Contracts of the reference's zeros of one side and of its centre; the lists are as each theorem states. -/
import Derived.Test.YtknknljkmkfmoaaN21
namespace Go.Proofs.Ytknknljkmkfmoaa
open Go.RowKit
set_option maxRecDepth 100000
set_option linter.unusedSimpArgs false

theorem RdM.six {w : World} {B b off : Nat} {E : List M} (h : RdM w B (some ⟨b, off, none⟩) E) {k : Nat} (hk : k < E.length) : SixAt w b (off + k * 6) (gm E k) ∧ b < B := by
  obtain ⟨b', off', e, hb, h6⟩ := RdM.at_ h hk
  injection e with e
  injection e with e1 e2 _
  subst e1 e2
  exact ⟨h6, hb⟩
theorem take_gm {E : List M} {r : Nat} (h : r < E.length) : E.take (r + 1) = E.take r ++ [gm E r] := by
  rw [List.take_add_one, gm_eq h, List.getElem?_eq_getElem h]; rfl
theorem filter_take {E : List M} {P : M → Bool} {r : Nat} (h : r < E.length) : (E.take (r + 1)).filter P = (E.take r).filter P ++ if P (gm E r) then [gm E r] else [] := by
  rw [take_gm h, List.filter_append]
  cases hp : P (gm E r) <;> simp [hp]
theorem filter_len (E : List M) (P : M → Bool) (r : Nat) : ((E.take r).filter P).length ≤ E.length :=
  Nat.le_trans (List.length_filter_le _ _) (by rw [List.length_take]; omega)
/-- z is a zero of one side -/
def zeroQ (r : Bool) (z x : M) : Bool := decide ((if r then mul x z else mul z x) = z)
def zeroS (E : List M) (r : Bool) (z : M) : Bool := E.all (zeroQ r z)
theorem all_take {E : List M} {Q : M → Bool} {j : Nat} (h : j < E.length) : (E.take (j + 1)).all Q = ((E.take j).all Q && Q (gm E j)) := by
  rw [take_gm h, List.all_append]; simp
theorem all_not {E : List M} {Q : M → Bool} {j : Nat} (h : (E.take j).all Q = false) : E.all Q = false := by
  rw [Bool.eq_false_iff] at h ⊢
  intro h2
  refine h ?_
  rw [List.all_eq_true] at h2 ⊢
  exact fun x hx => h2 x (List.mem_of_mem_take hx)

theorem zerosR_any (A : Option Addr) (N c : Nat) (E : List M) (n : Int) (w : World) (hx : RdM w w.heap.size A E) (hn : E.length = N) (hm : Mnd n E) (hN : N ≤ 300) :
    Calls Try.prog 95 #[.slice A N c, .bool true] w fun e w' => ∃ v, e = .returned v ∧ OwM 31 w' w.heap.size v (E.filter (zeroS E true)) ∧ Below w.heap.size w w' := by
  have hpos : 0 < E.length := hm.pos
  obtain ⟨b, off, rfl, hbb, _⟩ := RdM.at_ hx hpos
  have Hx := Lib.hid hx
  have Hn := Lib.hid hn
  have HE : Hid (∀ i, i < N → Valid (gm E i)) := fun i hi => (hm.ok _ (gm_mem (by omega))).1
  have Hm := Lib.hid hm
  clear hx hn hm
  go_enter Try.func95, Try.ntmps95
  go_wp2_with fail
  go_loopw [5, 6] (fun v i wr => ∃ q : Nat, i = .int .i64 q ∧ q ≤ N ∧ Below w.heap.size w wr ∧ OwM 31 wr w.heap.size v ((E.take q).filter (zeroS E true))) (fun _ i _ => N - (intOf i).toNat)
  case atStart => exact ⟨0, rfl, by omega, (Below.refl _ _).alloc (Nat.le_refl _) _, by simpa using OwM.made (Nat.le_refl _)⟩
  case round =>
    obtain ⟨q, rfl, hq, hb, ho⟩ := hrel
    obtain ⟨L, hL⟩ : ∃ L, L = (E.take q).filter (zeroS E true) := ⟨_, rfl⟩
    rw [← hL] at ho
    have hLl : L.length ≤ 300 := by rw [hL]; have := filter_len E (zeroS E true) q; have := Hn.out; omega
    have HL := Lib.hid hL
    obtain ⟨A1, c1, hv, _⟩ := ho.form
    obtain ⟨k1, hk1⟩ : ∃ k1, L.length = k1 := ⟨_, rfl⟩
    rw [hk1] at hv hLl
    subst hv
    have Hk1 := Lib.hid hk1
    have Hb := Lib.hid hb
    have Ho := Lib.hid ho
    clear hb ho hL hk1
    by_cases hqN : q < N
    · have hqi : (q : Int) < (N : Int) := by omega
      go_wp2_with fail
      go_loopw [7, 8] (fun gd k wr => ∃ j : Nat, k = .int .i64 j ∧ j ≤ N ∧ gd = .bool ((E.take j).all (zeroQ true (gm E q))) ∧ Below w.heap.size w wr ∧ OwM 31 wr w.heap.size (.slice A1 k1 c1) L) (fun _ k _ => N - (intOf k).toNat)
      case atStart => exact ⟨0, rfl, by omega, by simp, Hb.out, Ho.out⟩
      case round =>
        clear Hb Ho
        obtain ⟨j, rfl, hj, rfl, hb, ho⟩ := hrel
        have Hb := Lib.hid hb
        have Ho := Lib.hid ho
        clear hb ho
        cases hg : (E.take j).all (zeroQ true (gm E q))
        · have Hz : Hid (zeroS E true (gm E q) = false) := all_not hg
          have Hf : Hid ((E.take (q + 1)).filter (zeroS E true) = L) := by show _ = _; rw [filter_take (by rw [Hn.out]; exact hqN), Hz.out, ← HL.out]; simp
          clear hg
          by_cases hjN : j < N
          · have hji : (j : Int) < (N : Int) := by omega
            go_wp2_with fail
            go_roundw
            case rel => exact ⟨q + 1, by go_num, by omega, Hb.out, by rw [Hf.out]; exact Ho.out⟩
            case measure => simp [intOf]; omega
          · have hji : ¬ (j : Int) < (N : Int) := by omega
            go_wp2_with fail
            go_roundw
            case rel => exact ⟨q + 1, by go_num, by omega, Hb.out, by rw [Hf.out]; exact Ho.out⟩
            case measure => simp [intOf]; omega
        · by_cases hjN : j < N
          · have hji : (j : Int) < (N : Int) := by omega
            have hs := all_take (Q := zeroQ true (gm E q)) (by rw [Hn.out]; exact hjN)
            rw [hg, Bool.true_and] at hs
            have hxx := Rd.more (Rd.below Hx.out Hb.out) Hb.out.size
            have H6i := Lib.hid (RdM.six hxx (k := q) (by rw [Hn.out]; exact hqN)).1
            have H6k := Lib.hid (RdM.six hxx (k := j) (by rw [Hn.out]; exact hjN)).1
            have hvi := HE.out q hqN
            have hvk := HE.out j hjN
            have hbl := H6i.out.lt
            obtain ⟨z, hz⟩ : ∃ z, z = gm E q := ⟨_, rfl⟩
            obtain ⟨x, hxk⟩ : ∃ x, x = gm E j := ⟨_, rfl⟩
            rw [← hz] at H6i hvi hs
            rw [← hxk] at H6k hvk hs
            have Hz := Lib.hid hz
            have heq := eqMap_run (mul x z) z
            obtain ⟨d, hd⟩ : ∃ d, d = decide (mul x z = z) := ⟨_, rfl⟩
            rw [← hd] at heq
            have hsd : (E.take (j + 1)).all (zeroQ true z) = d := by rw [hs, hd]; rfl
            have Hs := Lib.hid hsd
            clear hg hs hd hsd hz hxk hxx
            go_wp2_with fail
            refine wp_region_same [] rfl (by kernel_rfl) (by kernel_rfl) (by kernel_rfl) (fun w' => Below wr.heap.size wr w') _
              [.slice (some ⟨b, off, none⟩) N c, I j, .pointer (some ⟨b, off + j * 6, none⟩), .agg (mc x), .slice (some ⟨b, off, none⟩) N c, I q, .pointer (some ⟨b, off + q * 6, none⟩), .agg (mc z), .agg (mc (mul x z)), .slice (some ⟨b, off, none⟩) N c, I q, .pointer (some ⟨b, off + q * 6, none⟩), .agg (mc z), .bool d, .bool d]
              (by simp only [putAll, List.setIfInBounds_toArray, List.set_cons_succ, List.set_cons_zero]; rfl) (Below.refl _ _).drew ?hop ?hQ
            case hop =>
              refine FixBL.toL (fun w' w'' hS hb => hS.trans (hb.mono hS.size)) _ _ ?_
              refine ⟨.inr ?_, .inr ?_, .inr ?_, .inr ?_, .inr ?_, .inr ?_, .inr ?_, .inr ?_, .inr ?_, .inr ?_, .inr ?_, .inr ?_, .inr ?_, .inr ?_, .inr ?_, trivial⟩
              · (with_reducible refine FixB.of ?_ ?_; rfl; intro w' hS; have s0 := H6i.out.below hS hbl; have s1 := H6k.out.below hS hbl; clear hS; unfold Oper.wp; go_simp; first | done | exact Below.refl _ _)
              · (with_reducible refine FixB.of ?_ ?_; rfl; intro w' hS; have s0 := H6i.out.below hS hbl; have s1 := H6k.out.below hS hbl; clear hS; unfold Oper.wp; go_simp; first | done | exact Below.refl _ _)
              · (with_reducible refine FixB.of ?_ ?_; rfl; intro w' hS; have s0 := H6i.out.below hS hbl; have s1 := H6k.out.below hS hbl; clear hS; unfold Oper.wp; go_simp; first | done | exact Below.refl _ _)
              · (with_reducible refine FixB.of ?_ ?_; rfl; intro w' hS; have s0 := H6i.out.below hS hbl; have s1 := H6k.out.below hS hbl; clear hS; unfold Oper.wp; go_simp; first | done | exact Below.refl _ _)
              · (with_reducible refine FixB.of ?_ ?_; rfl; intro w' hS; have s0 := H6i.out.below hS hbl; have s1 := H6k.out.below hS hbl; clear hS; unfold Oper.wp; go_simp; first | done | exact Below.refl _ _)
              · (with_reducible refine FixB.of ?_ ?_; rfl; intro w' hS; have s0 := H6i.out.below hS hbl; have s1 := H6k.out.below hS hbl; clear hS; unfold Oper.wp; go_simp; first | done | exact Below.refl _ _)
              · (with_reducible refine FixB.of ?_ ?_; rfl; intro w' hS; have s0 := H6i.out.below hS hbl; have s1 := H6k.out.below hS hbl; clear hS; unfold Oper.wp; go_simp; first | done | exact Below.refl _ _)
              · (with_reducible refine FixB.of ?_ ?_; rfl; intro w' hS; have s0 := H6i.out.below hS hbl; have s1 := H6k.out.below hS hbl; clear hS; unfold Oper.wp; go_simp; first | done | exact Below.refl _ _)
              · (with_reducible refine FixB.of ?_ ?_; rfl; intro w' hS; have s3 := Lib.hid hS; unfold Oper.wp; clear hS; go_simp; refine (l01Times_any x z _ (by assumption)).mono ?_; rintro e w1 ⟨rfl, hb⟩; exact ⟨rfl, hb⟩)
              · (with_reducible refine FixB.of ?_ ?_; rfl; intro w' hS; have s0 := H6i.out.below hS hbl; have s1 := H6k.out.below hS hbl; clear hS; unfold Oper.wp; go_simp; first | done | exact Below.refl _ _)
              · (with_reducible refine FixB.of ?_ ?_; rfl; intro w' hS; have s0 := H6i.out.below hS hbl; have s1 := H6k.out.below hS hbl; clear hS; unfold Oper.wp; go_simp; first | done | exact Below.refl _ _)
              · (with_reducible refine FixB.of ?_ ?_; rfl; intro w' hS; have s0 := H6i.out.below hS hbl; have s1 := H6k.out.below hS hbl; clear hS; unfold Oper.wp; go_simp; first | done | exact Below.refl _ _)
              · (with_reducible refine FixB.of ?_ ?_; rfl; intro w' hS; have s0 := H6i.out.below hS hbl; have s1 := H6k.out.below hS hbl; clear hS; unfold Oper.wp; go_simp; first | done | exact Below.refl _ _)
              · (with_reducible refine FixB.of ?_ ?_; rfl; intro w' hS; have s0 := H6i.out.below hS hbl; have s1 := H6k.out.below hS hbl; clear hS; unfold Oper.wp; go_simp; first | done | exact Below.refl _ _)
              · (with_reducible refine FixB.of ?_ ?_; rfl; intro w' hS; have s0 := H6i.out.below hS hbl; have s1 := H6k.out.below hS hbl; clear hS; unfold Oper.wp; go_simp; first | done | exact Below.refl _ _)
            case hQ =>
            intro wc hS _
            have HB2 := Lib.hid hS
            clear hS
            clear heq H6i H6k
            go_wp2_with fail
            go_roundw
            case rel => exact ⟨j + 1, by go_num, by omega, by rw [← Hz.out, Hs.out], Hb.out.trans (HB2.out.mono Hb.out.size), Ho.out.below HB2.out (Nat.le_refl _)⟩
            case measure => simp [intOf]; omega
          · have hji : ¬ (j : Int) < (N : Int) := by omega
            have hall : E.all (zeroQ true (gm E q)) = true := by rw [List.take_of_length_le (by rw [Hn.out]; omega)] at hg; exact hg
            have Hz : Hid (zeroS E true (gm E q) = true) := hall
            have hxx := Rd.more (Rd.below Hx.out Hb.out) Hb.out.size
            obtain ⟨x0, x1, x2, x3, x4, x5⟩ := (RdM.six hxx (k := q) (by rw [Hn.out]; exact hqN)).1
            obtain ⟨z, hzz⟩ : ∃ z, z = gm E q := ⟨_, rfl⟩
            rw [← hzz] at x0 x1 x2 x3 x4 x5
            have Hf : Hid ((E.take (q + 1)).filter (zeroS E true) = L ++ [z]) := by show _ = _; rw [filter_take (by rw [Hn.out]; exact hqN), Hz.out, ← HL.out, hzz]; simp
            have hsz := Hb.out.size
            clear hg hall hxx hzz Hz
            go_wp2_with (at_builtin; refine wpList_pushM rfl (.tmp 55) (.tmp 60) rfl w.heap.size (.slice A1 k1 c1) L rfl (Ho.out.alloc _) k1 Hk1.out wr.heap.size 1 z rfl (Blk.six (Blk.new _ _ _)) (by omega) (by simp; omega) (wr.heap.size + 1) (by simp) ?_; intro g' cap w4 ho' hgr hg' hlt'; have Hb4 := Lib.hid (((Ho.out.alloc (.cells (mc z) 31)).bel (Hb.out.alloc hsz _) hgr (Nat.le_refl _) (by simp; omega))); have Ho4 := Lib.hid ho'; clear ho' hgr hg' hlt')
            go_roundw
            case rel => exact ⟨q + 1, by go_num, by omega, Hb4.out, by rw [Hf.out]; exact Ho4.out⟩
            case measure => simp [intOf]; omega
    · obtain rfl : q = N := by omega
      have hqi : ¬ ((q : Int) < (q : Int)) := by omega
      have HR : Hid (E.filter (zeroS E true) = L) := by show _ = _; rw [HL.out, List.take_of_length_le (by rw [Hn.out]; exact Nat.le_refl _)]
      go_wp2_with fail
      go_ret
      exact ⟨_, rfl, by rw [HR.out]; exact Ho.out, Hb.out⟩

theorem zerosL_any (A : Option Addr) (N c : Nat) (E : List M) (n : Int) (w : World) (hx : RdM w w.heap.size A E) (hn : E.length = N) (hm : Mnd n E) (hN : N ≤ 300) :
    Calls Try.prog 95 #[.slice A N c, .bool false] w fun e w' => ∃ v, e = .returned v ∧ OwM 31 w' w.heap.size v (E.filter (zeroS E false)) ∧ Below w.heap.size w w' := by
  have hpos : 0 < E.length := hm.pos
  obtain ⟨b, off, rfl, hbb, _⟩ := RdM.at_ hx hpos
  have Hx := Lib.hid hx
  have Hn := Lib.hid hn
  have HE : Hid (∀ i, i < N → Valid (gm E i)) := fun i hi => (hm.ok _ (gm_mem (by omega))).1
  have Hm := Lib.hid hm
  clear hx hn hm
  go_enter Try.func95, Try.ntmps95
  go_wp2_with fail
  go_loopw [5, 6] (fun v i wr => ∃ q : Nat, i = .int .i64 q ∧ q ≤ N ∧ Below w.heap.size w wr ∧ OwM 31 wr w.heap.size v ((E.take q).filter (zeroS E false))) (fun _ i _ => N - (intOf i).toNat)
  case atStart => exact ⟨0, rfl, by omega, (Below.refl _ _).alloc (Nat.le_refl _) _, by simpa using OwM.made (Nat.le_refl _)⟩
  case round =>
    obtain ⟨q, rfl, hq, hb, ho⟩ := hrel
    obtain ⟨L, hL⟩ : ∃ L, L = (E.take q).filter (zeroS E false) := ⟨_, rfl⟩
    rw [← hL] at ho
    have hLl : L.length ≤ 300 := by rw [hL]; have := filter_len E (zeroS E false) q; have := Hn.out; omega
    have HL := Lib.hid hL
    obtain ⟨A1, c1, hv, _⟩ := ho.form
    obtain ⟨k1, hk1⟩ : ∃ k1, L.length = k1 := ⟨_, rfl⟩
    rw [hk1] at hv hLl
    subst hv
    have Hk1 := Lib.hid hk1
    have Hb := Lib.hid hb
    have Ho := Lib.hid ho
    clear hb ho hL hk1
    by_cases hqN : q < N
    · have hqi : (q : Int) < (N : Int) := by omega
      go_wp2_with fail
      go_loopw [7, 8] (fun gd k wr => ∃ j : Nat, k = .int .i64 j ∧ j ≤ N ∧ gd = .bool ((E.take j).all (zeroQ false (gm E q))) ∧ Below w.heap.size w wr ∧ OwM 31 wr w.heap.size (.slice A1 k1 c1) L) (fun _ k _ => N - (intOf k).toNat)
      case atStart => exact ⟨0, rfl, by omega, by simp, Hb.out, Ho.out⟩
      case round =>
        clear Hb Ho
        obtain ⟨j, rfl, hj, rfl, hb, ho⟩ := hrel
        have Hb := Lib.hid hb
        have Ho := Lib.hid ho
        clear hb ho
        cases hg : (E.take j).all (zeroQ false (gm E q))
        · have Hz : Hid (zeroS E false (gm E q) = false) := all_not hg
          have Hf : Hid ((E.take (q + 1)).filter (zeroS E false) = L) := by show _ = _; rw [filter_take (by rw [Hn.out]; exact hqN), Hz.out, ← HL.out]; simp
          clear hg
          by_cases hjN : j < N
          · have hji : (j : Int) < (N : Int) := by omega
            go_wp2_with fail
            go_roundw
            case rel => exact ⟨q + 1, by go_num, by omega, Hb.out, by rw [Hf.out]; exact Ho.out⟩
            case measure => simp [intOf]; omega
          · have hji : ¬ (j : Int) < (N : Int) := by omega
            go_wp2_with fail
            go_roundw
            case rel => exact ⟨q + 1, by go_num, by omega, Hb.out, by rw [Hf.out]; exact Ho.out⟩
            case measure => simp [intOf]; omega
        · by_cases hjN : j < N
          · have hji : (j : Int) < (N : Int) := by omega
            have hs := all_take (Q := zeroQ false (gm E q)) (by rw [Hn.out]; exact hjN)
            rw [hg, Bool.true_and] at hs
            have hxx := Rd.more (Rd.below Hx.out Hb.out) Hb.out.size
            have H6i := Lib.hid (RdM.six hxx (k := q) (by rw [Hn.out]; exact hqN)).1
            have H6k := Lib.hid (RdM.six hxx (k := j) (by rw [Hn.out]; exact hjN)).1
            have hvi := HE.out q hqN
            have hvk := HE.out j hjN
            have hbl := H6i.out.lt
            obtain ⟨z, hz⟩ : ∃ z, z = gm E q := ⟨_, rfl⟩
            obtain ⟨x, hxk⟩ : ∃ x, x = gm E j := ⟨_, rfl⟩
            rw [← hz] at H6i hvi hs
            rw [← hxk] at H6k hvk hs
            have Hz := Lib.hid hz
            have heq := eqMap_run (mul z x) z
            obtain ⟨d, hd⟩ : ∃ d, d = decide (mul z x = z) := ⟨_, rfl⟩
            rw [← hd] at heq
            have hsd : (E.take (j + 1)).all (zeroQ false z) = d := by rw [hs, hd]; rfl
            have Hs := Lib.hid hsd
            clear hg hs hd hsd hz hxk hxx
            go_wp2_with fail
            refine wp_region_same [] rfl (by kernel_rfl) (by kernel_rfl) (by kernel_rfl) (fun w' => Below wr.heap.size wr w') _
              [.slice (some ⟨b, off, none⟩) N c, I q, .pointer (some ⟨b, off + q * 6, none⟩), .agg (mc z), .slice (some ⟨b, off, none⟩) N c, I j, .pointer (some ⟨b, off + j * 6, none⟩), .agg (mc x), .agg (mc (mul z x)), .slice (some ⟨b, off, none⟩) N c, I q, .pointer (some ⟨b, off + q * 6, none⟩), .agg (mc z), .bool d, .bool d]
              (by simp only [putAll, List.setIfInBounds_toArray, List.set_cons_succ, List.set_cons_zero]; rfl) (Below.refl _ _).drew ?hop ?hQ
            case hop =>
              refine FixBL.toL (fun w' w'' hS hb => hS.trans (hb.mono hS.size)) _ _ ?_
              refine ⟨.inr ?_, .inr ?_, .inr ?_, .inr ?_, .inr ?_, .inr ?_, .inr ?_, .inr ?_, .inr ?_, .inr ?_, .inr ?_, .inr ?_, .inr ?_, .inr ?_, .inr ?_, trivial⟩
              · (with_reducible refine FixB.of ?_ ?_; rfl; intro w' hS; have s0 := H6i.out.below hS hbl; have s1 := H6k.out.below hS hbl; clear hS; unfold Oper.wp; go_simp; first | done | exact Below.refl _ _)
              · (with_reducible refine FixB.of ?_ ?_; rfl; intro w' hS; have s0 := H6i.out.below hS hbl; have s1 := H6k.out.below hS hbl; clear hS; unfold Oper.wp; go_simp; first | done | exact Below.refl _ _)
              · (with_reducible refine FixB.of ?_ ?_; rfl; intro w' hS; have s0 := H6i.out.below hS hbl; have s1 := H6k.out.below hS hbl; clear hS; unfold Oper.wp; go_simp; first | done | exact Below.refl _ _)
              · (with_reducible refine FixB.of ?_ ?_; rfl; intro w' hS; have s0 := H6i.out.below hS hbl; have s1 := H6k.out.below hS hbl; clear hS; unfold Oper.wp; go_simp; first | done | exact Below.refl _ _)
              · (with_reducible refine FixB.of ?_ ?_; rfl; intro w' hS; have s0 := H6i.out.below hS hbl; have s1 := H6k.out.below hS hbl; clear hS; unfold Oper.wp; go_simp; first | done | exact Below.refl _ _)
              · (with_reducible refine FixB.of ?_ ?_; rfl; intro w' hS; have s0 := H6i.out.below hS hbl; have s1 := H6k.out.below hS hbl; clear hS; unfold Oper.wp; go_simp; first | done | exact Below.refl _ _)
              · (with_reducible refine FixB.of ?_ ?_; rfl; intro w' hS; have s0 := H6i.out.below hS hbl; have s1 := H6k.out.below hS hbl; clear hS; unfold Oper.wp; go_simp; first | done | exact Below.refl _ _)
              · (with_reducible refine FixB.of ?_ ?_; rfl; intro w' hS; have s0 := H6i.out.below hS hbl; have s1 := H6k.out.below hS hbl; clear hS; unfold Oper.wp; go_simp; first | done | exact Below.refl _ _)
              · (with_reducible refine FixB.of ?_ ?_; rfl; intro w' hS; have s3 := Lib.hid hS; unfold Oper.wp; clear hS; go_simp; refine (l01Times_any z x _ (by assumption)).mono ?_; rintro e w1 ⟨rfl, hb⟩; exact ⟨rfl, hb⟩)
              · (with_reducible refine FixB.of ?_ ?_; rfl; intro w' hS; have s0 := H6i.out.below hS hbl; have s1 := H6k.out.below hS hbl; clear hS; unfold Oper.wp; go_simp; first | done | exact Below.refl _ _)
              · (with_reducible refine FixB.of ?_ ?_; rfl; intro w' hS; have s0 := H6i.out.below hS hbl; have s1 := H6k.out.below hS hbl; clear hS; unfold Oper.wp; go_simp; first | done | exact Below.refl _ _)
              · (with_reducible refine FixB.of ?_ ?_; rfl; intro w' hS; have s0 := H6i.out.below hS hbl; have s1 := H6k.out.below hS hbl; clear hS; unfold Oper.wp; go_simp; first | done | exact Below.refl _ _)
              · (with_reducible refine FixB.of ?_ ?_; rfl; intro w' hS; have s0 := H6i.out.below hS hbl; have s1 := H6k.out.below hS hbl; clear hS; unfold Oper.wp; go_simp; first | done | exact Below.refl _ _)
              · (with_reducible refine FixB.of ?_ ?_; rfl; intro w' hS; have s0 := H6i.out.below hS hbl; have s1 := H6k.out.below hS hbl; clear hS; unfold Oper.wp; go_simp; first | done | exact Below.refl _ _)
              · (with_reducible refine FixB.of ?_ ?_; rfl; intro w' hS; have s0 := H6i.out.below hS hbl; have s1 := H6k.out.below hS hbl; clear hS; unfold Oper.wp; go_simp; first | done | exact Below.refl _ _)
            case hQ =>
            intro wc hS _
            have HB2 := Lib.hid hS
            clear hS
            clear heq H6i H6k
            go_wp2_with fail
            go_roundw
            case rel => exact ⟨j + 1, by go_num, by omega, by rw [← Hz.out, Hs.out], Hb.out.trans (HB2.out.mono Hb.out.size), Ho.out.below HB2.out (Nat.le_refl _)⟩
            case measure => simp [intOf]; omega
          · have hji : ¬ (j : Int) < (N : Int) := by omega
            have hall : E.all (zeroQ false (gm E q)) = true := by rw [List.take_of_length_le (by rw [Hn.out]; omega)] at hg; exact hg
            have Hz : Hid (zeroS E false (gm E q) = true) := hall
            have hxx := Rd.more (Rd.below Hx.out Hb.out) Hb.out.size
            obtain ⟨x0, x1, x2, x3, x4, x5⟩ := (RdM.six hxx (k := q) (by rw [Hn.out]; exact hqN)).1
            obtain ⟨z, hzz⟩ : ∃ z, z = gm E q := ⟨_, rfl⟩
            rw [← hzz] at x0 x1 x2 x3 x4 x5
            have Hf : Hid ((E.take (q + 1)).filter (zeroS E false) = L ++ [z]) := by show _ = _; rw [filter_take (by rw [Hn.out]; exact hqN), Hz.out, ← HL.out, hzz]; simp
            have hsz := Hb.out.size
            clear hg hall hxx hzz Hz
            go_wp2_with (at_builtin; refine wpList_pushM rfl (.tmp 55) (.tmp 60) rfl w.heap.size (.slice A1 k1 c1) L rfl (Ho.out.alloc _) k1 Hk1.out wr.heap.size 1 z rfl (Blk.six (Blk.new _ _ _)) (by omega) (by simp; omega) (wr.heap.size + 1) (by simp) ?_; intro g' cap w4 ho' hgr hg' hlt'; have Hb4 := Lib.hid (((Ho.out.alloc (.cells (mc z) 31)).bel (Hb.out.alloc hsz _) hgr (Nat.le_refl _) (by simp; omega))); have Ho4 := Lib.hid ho'; clear ho' hgr hg' hlt')
            go_roundw
            case rel => exact ⟨q + 1, by go_num, by omega, Hb4.out, by rw [Hf.out]; exact Ho4.out⟩
            case measure => simp [intOf]; omega
    · obtain rfl : q = N := by omega
      have hqi : ¬ ((q : Int) < (q : Int)) := by omega
      have HR : Hid (E.filter (zeroS E false) = L) := by show _ = _; rw [HL.out, List.take_of_length_le (by rw [Hn.out]; exact Nat.le_refl _)]
      go_wp2_with fail
      go_ret
      exact ⟨_, rfl, by rw [HR.out]; exact Ho.out, Hb.out⟩

theorem zerosS_any (A : Option Addr) (N c : Nat) (E : List M) (n : Int) (r : Bool) (w : World) (hx : RdM w w.heap.size A E) (hn : E.length = N) (hm : Mnd n E) (hN : N ≤ 300) :
    Calls Try.prog 95 #[.slice A N c, .bool r] w fun e w' => ∃ v, e = .returned v ∧ OwM 31 w' w.heap.size v (E.filter (zeroS E r)) ∧ Below w.heap.size w w' := by
  cases r
  · exact zerosL_any A N c E n w hx hn hm hN
  · exact zerosR_any A N c E n w hx hn hm hN
end Go.Proofs.Ytknknljkmkfmoaa
