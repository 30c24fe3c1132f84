/- Contracts of the reference's centre, and of CentreOf, IdempotentsOf, SideZeros and IsCommutative of the reference; the lists are as each theorem states. -/
import Derived.Test.YtknknljkmkfmoaaN22
import Derived.Test.YtknknljkmkfmoaaR3
namespace Go.Proofs.Ytknknljkmkfmoaa
open Go.RowKit
set_option maxRecDepth 100000
set_option linter.unusedSimpArgs false

def centQ (z g : M) : Bool := decide (mul z g = mul g z)
def centS (gens : List M) (z : M) : Bool := gens.all (centQ z)
theorem centreS0_any (A A2 : Option Addr) (N c m d : Nat) (E gens : List M) (n : Int) (w : World) (hx : RdM w w.heap.size A E) (hn : E.length = N) (hm : Mnd n E) (hN : N ≤ 300)
    (hy : RdM w w.heap.size A2 gens) (hgl : gens.length = m) (hG : Pts n gens) (hm1 : 0 < m) (hmb : m < 1073741824) :
    Calls Try.prog 83 #[.slice A N c, .slice A2 m d] w fun e w' => ∃ v, e = .returned v ∧ OwM 31 w' w.heap.size v (E.filter (centS gens)) ∧ Below w.heap.size w w' := by
  have hpos : 0 < E.length := hm.pos
  obtain ⟨b, off, rfl, hbb, _⟩ := RdM.at_ hx hpos
  obtain ⟨b2, off2, rfl, hbb2, _⟩ := RdM.at_ hy (k := 0) (by omega)
  have Hx := Lib.hid hx
  have Hn := Lib.hid hn
  have Hy := Lib.hid hy
  have Hgl := Lib.hid hgl
  have HE : Hid (∀ i, i < N → Valid (gm E i) ∧ (gm E i).p = n) := fun i hi => hm.ok _ (gm_mem (by omega))
  have HG : Hid (∀ i, i < m → Valid (gm gens i) ∧ (gm gens i).p = n) := fun i hi => hG _ (gm_mem (by omega))
  clear hx hn hm hy hgl hG
  go_enter Try.func83, Try.ntmps83
  go_wp2_with fail
  go_loopw [5, 6] (fun v i wr => ∃ q : Nat, i = .int .i64 q ∧ q ≤ N ∧ Below w.heap.size w wr ∧ OwM 31 wr w.heap.size v ((E.take q).filter (centS gens))) (fun _ i _ => N - (intOf i).toNat)
  case atStart => exact ⟨0, rfl, by omega, (Below.refl _ _).alloc (Nat.le_refl _) _, by simpa using OwM.made (Nat.le_refl _)⟩
  case round =>
    obtain ⟨q, rfl, hq, hb, ho⟩ := hrel
    obtain ⟨L, hL⟩ : ∃ L, L = (E.take q).filter (centS gens) := ⟨_, rfl⟩
    rw [← hL] at ho
    have hLl : L.length ≤ 300 := by rw [hL]; have := filter_len E (centS gens) q; have := Hn.out; omega
    have HL := Lib.hid hL
    obtain ⟨A1, c1, hv, _⟩ := ho.form
    obtain ⟨k1, hk1⟩ : ∃ k1, L.length = k1 := ⟨_, rfl⟩
    rw [hk1] at hv hLl
    subst hv
    have Hk1 := Lib.hid hk1
    have Hb := Lib.hid hb
    have Ho := Lib.hid ho
    clear hb ho hL hk1
    by_cases hqN : q < N
    · have hqi : (q : Int) < (N : Int) := by omega
      go_wp2_with fail
      go_loopw [7, 8] (fun gd k wr => ∃ j : Nat, k = .int .i64 j ∧ j ≤ m ∧ gd = .bool ((gens.take j).all (centQ (gm E q))) ∧ Below w.heap.size w wr ∧ OwM 31 wr w.heap.size (.slice A1 k1 c1) L) (fun _ k _ => m - (intOf k).toNat)
      case atStart => exact ⟨0, rfl, by omega, by simp, Hb.out, Ho.out⟩
      case round =>
        clear Hb Ho
        obtain ⟨j, rfl, hj, rfl, hb, ho⟩ := hrel
        have Hb := Lib.hid hb
        have Ho := Lib.hid ho
        clear hb ho
        by_cases hjN : j < m
        · have hji : (j : Int) < (m : Int) := by omega
          have hs := all_take (Q := centQ (gm E q)) (by rw [Hgl.out]; exact hjN)
          cases hg : (gens.take j).all (centQ (gm E q))
          · rw [hg, Bool.false_and] at hs
            have Hs := Lib.hid hs
            clear hs hg
            go_wp2_with fail
            refine wp_region_sameX [] rfl (by kernel_rfl) (by kernel_rfl) [7] (by kernel_rfl) (fun w' => Below wr.heap.size wr w') _
              [.bool false, .bool false, undef, undef, undef, undef, undef, undef, undef, undef, undef, undef, undef, undef, undef, undef, undef, undef, undef, undef, undef, .bool false, .bool false]
              (by simp only [putAll, List.setIfInBounds_toArray, List.set_cons_succ, List.set_cons_zero]; rfl) [(7, .bool false)] rfl _
              (by simp only [setAll, List.setIfInBounds_toArray, List.set_cons_succ, List.set_cons_zero]; rfl) (by kernel_rfl) (fun w' w'' hS hb => hS.trans (hb.mono hS.size)) (Below.refl _ _).drew ?hop ?hQ
            case hop =>
              refine ⟨?_, ?_, ?_, ?_, ?_, ?_, ?_, ?_, ?_, ?_, ?_, ?_, ?_, ?_, ?_, ?_, ?_, ?_, ?_, ?_, ?_, ?_, ?_, trivial⟩
              · (refine FixX.of (by first | rfl | kernel_rfl | (simp [Region.wanted, yielded]; done)) ?_; intro w' hS; clear hS; unfold Oper.wp; go_simp; first | done | exact Below.refl _ _ | exact ⟨rfl, Below.refl _ _⟩ | exact ⟨rfl, (fun t ht => by injection ht with ht; subst ht; rfl), Below.refl _ _⟩)
              · (refine FixX.of (by first | rfl | kernel_rfl | (simp [Region.wanted, yielded]; done)) ?_; intro w' hS; clear hS; unfold Oper.wp; go_simp; first | done | exact Below.refl _ _ | exact ⟨rfl, Below.refl _ _⟩ | exact ⟨rfl, (fun t ht => by injection ht with ht; subst ht; rfl), Below.refl _ _⟩)
              · exact FixX.off (by first | rfl | kernel_rfl | (simp [Region.wanted, yielded]; done)) (fun t ht => by injection ht with ht; subst ht; rfl)
              · exact FixX.off (by first | rfl | kernel_rfl | (simp [Region.wanted, yielded]; done)) (fun t ht => by injection ht with ht; subst ht; rfl)
              · exact FixX.off (by first | rfl | kernel_rfl | (simp [Region.wanted, yielded]; done)) (fun t ht => by injection ht with ht; subst ht; rfl)
              · exact FixX.off (by first | rfl | kernel_rfl | (simp [Region.wanted, yielded]; done)) (fun t ht => by injection ht with ht; subst ht; rfl)
              · exact FixX.off (by first | rfl | kernel_rfl | (simp [Region.wanted, yielded]; done)) (fun t ht => by injection ht with ht; subst ht; rfl)
              · exact FixX.off (by first | rfl | kernel_rfl | (simp [Region.wanted, yielded]; done)) (fun t ht => by injection ht with ht; subst ht; rfl)
              · exact FixX.off (by first | rfl | kernel_rfl | (simp [Region.wanted, yielded]; done)) (fun t ht => by injection ht with ht; subst ht; rfl)
              · exact FixX.off (by first | rfl | kernel_rfl | (simp [Region.wanted, yielded]; done)) (fun t ht => by injection ht with ht; subst ht; rfl)
              · exact FixX.off (by first | rfl | kernel_rfl | (simp [Region.wanted, yielded]; done)) (fun t ht => by injection ht with ht; subst ht; rfl)
              · exact FixX.off (by first | rfl | kernel_rfl | (simp [Region.wanted, yielded]; done)) (fun t ht => by injection ht with ht; subst ht; rfl)
              · exact FixX.off (by first | rfl | kernel_rfl | (simp [Region.wanted, yielded]; done)) (fun t ht => by injection ht with ht; subst ht; rfl)
              · exact FixX.off (by first | rfl | kernel_rfl | (simp [Region.wanted, yielded]; done)) (fun t ht => by injection ht with ht; subst ht; rfl)
              · exact FixX.off (by first | rfl | kernel_rfl | (simp [Region.wanted, yielded]; done)) (fun t ht => by injection ht with ht; subst ht; rfl)
              · exact FixX.off (by first | rfl | kernel_rfl | (simp [Region.wanted, yielded]; done)) (fun t ht => by injection ht with ht; subst ht; rfl)
              · exact FixX.off (by first | rfl | kernel_rfl | (simp [Region.wanted, yielded]; done)) (fun t ht => by injection ht with ht; subst ht; rfl)
              · exact FixX.off (by first | rfl | kernel_rfl | (simp [Region.wanted, yielded]; done)) (fun t ht => by injection ht with ht; subst ht; rfl)
              · exact FixX.off (by first | rfl | kernel_rfl | (simp [Region.wanted, yielded]; done)) (fun t ht => by injection ht with ht; subst ht; rfl)
              · exact FixX.off (by first | rfl | kernel_rfl | (simp [Region.wanted, yielded]; done)) (fun t ht => by injection ht with ht; subst ht; rfl)
              · exact FixX.off (by first | rfl | kernel_rfl | (simp [Region.wanted, yielded]; done)) (fun t ht => by injection ht with ht; subst ht; rfl)
              · (refine FixX.of (by first | rfl | kernel_rfl | (simp [Region.wanted, yielded]; done)) ?_; intro w' hS; clear hS; unfold Oper.wp; go_simp; first | done | exact Below.refl _ _ | exact ⟨rfl, Below.refl _ _⟩ | exact ⟨rfl, (fun t ht => by injection ht with ht; subst ht; rfl), Below.refl _ _⟩)
              · (refine FixX.of (by first | rfl | kernel_rfl | (simp [Region.wanted, yielded]; done)) ?_; intro w' hS; clear hS; unfold Oper.wp; go_simp; first | done | exact Below.refl _ _ | exact ⟨rfl, Below.refl _ _⟩ | exact ⟨rfl, (fun t ht => by injection ht with ht; subst ht; rfl), Below.refl _ _⟩)
            case hQ =>
            intro wc hS
            have HB2 := Lib.hid hS
            clear hS
            go_wp2_with fail
            go_roundw
            case rel => exact ⟨j + 1, by go_num, by omega, by rw [Hs.out], Hb.out.trans (HB2.out.mono Hb.out.size), Ho.out.below HB2.out (Nat.le_refl _)⟩
            case measure => simp [intOf]; omega
          · rw [hg, Bool.true_and] at hs
            have H6i := Lib.hid (RdM.six (Rd.more (Rd.below Hx.out Hb.out) Hb.out.size) (k := q) (by rw [Hn.out]; exact hqN)).1
            have H6k := Lib.hid (RdM.six (Rd.more (Rd.below Hy.out Hb.out) Hb.out.size) (k := j) (by rw [Hgl.out]; exact hjN)).1
            have hvi := (HE.out q hqN).1
            have hvk := (HG.out j hjN).1
            have hbl := H6i.out.lt
            have hbl2 := H6k.out.lt
            obtain ⟨z, hz⟩ : ∃ z, z = gm E q := ⟨_, rfl⟩
            obtain ⟨x, hxk⟩ : ∃ x, x = gm gens j := ⟨_, rfl⟩
            rw [← hz] at H6i hvi hs
            rw [← hxk] at H6k hvk hs
            have Hz := Lib.hid hz
            have heq := eqMap_run (mul z x) (mul x z)
            obtain ⟨t, ht⟩ : ∃ t, t = decide (mul z x = mul x z) := ⟨_, rfl⟩
            rw [← ht] at heq
            have hsd : (gens.take (j + 1)).all (centQ z) = t := by rw [hs, ht]; rfl
            have Hs := Lib.hid hsd
            clear hg hs ht hsd hz hxk
            go_wp2_with fail
            refine wp_region_sameX [] rfl (by kernel_rfl) (by kernel_rfl) [7] (by kernel_rfl) (fun w' => Below wr.heap.size wr w') _
              [.bool true, .bool true, .slice (some ⟨b, off, none⟩) N c, I q, .pointer (some ⟨b, off + q * 6, none⟩), .agg (mc z), .slice (some ⟨b2, off2, none⟩) m d, I j, .pointer (some ⟨b2, off2 + j * 6, none⟩), .agg (mc x), .agg (mc (mul z x)), .slice (some ⟨b2, off2, none⟩) m d, I j, .pointer (some ⟨b2, off2 + j * 6, none⟩), .agg (mc x), .slice (some ⟨b, off, none⟩) N c, I q, .pointer (some ⟨b, off + q * 6, none⟩), .agg (mc z), .agg (mc (mul x z)), .bool t, .bool t, .bool t]
              (by simp only [putAll, List.setIfInBounds_toArray, List.set_cons_succ, List.set_cons_zero]; rfl) [(7, .bool true)] rfl _
              (by simp only [setAll, List.setIfInBounds_toArray, List.set_cons_succ, List.set_cons_zero]; rfl) (by kernel_rfl) (fun w' w'' hS hb => hS.trans (hb.mono hS.size)) (Below.refl _ _).drew ?hop ?hQ
            case hop =>
              refine ⟨?_, ?_, ?_, ?_, ?_, ?_, ?_, ?_, ?_, ?_, ?_, ?_, ?_, ?_, ?_, ?_, ?_, ?_, ?_, ?_, ?_, ?_, ?_, trivial⟩
              · (refine FixX.of (by first | rfl | kernel_rfl | (simp [Region.wanted, yielded]; done)) ?_; intro w' hS; have s0 := H6i.out.below hS hbl; have s1 := H6k.out.below hS hbl2; clear hS; unfold Oper.wp; go_simp; first | done | exact Below.refl _ _ | exact ⟨rfl, Below.refl _ _⟩ | exact ⟨rfl, (fun t ht => by injection ht with ht; subst ht; rfl), Below.refl _ _⟩)
              · (refine FixX.of (by first | rfl | kernel_rfl | (simp [Region.wanted, yielded]; done)) ?_; intro w' hS; have s0 := H6i.out.below hS hbl; have s1 := H6k.out.below hS hbl2; clear hS; unfold Oper.wp; go_simp; first | done | exact Below.refl _ _ | exact ⟨rfl, Below.refl _ _⟩ | exact ⟨rfl, (fun t ht => by injection ht with ht; subst ht; rfl), Below.refl _ _⟩)
              · (refine FixX.of (by first | rfl | kernel_rfl | (simp [Region.wanted, yielded]; done)) ?_; intro w' hS; have s0 := H6i.out.below hS hbl; have s1 := H6k.out.below hS hbl2; clear hS; unfold Oper.wp; go_simp; first | done | exact Below.refl _ _ | exact ⟨rfl, Below.refl _ _⟩ | exact ⟨rfl, (fun t ht => by injection ht with ht; subst ht; rfl), Below.refl _ _⟩)
              · (refine FixX.of (by first | rfl | kernel_rfl | (simp [Region.wanted, yielded]; done)) ?_; intro w' hS; have s0 := H6i.out.below hS hbl; have s1 := H6k.out.below hS hbl2; clear hS; unfold Oper.wp; go_simp; first | done | exact Below.refl _ _ | exact ⟨rfl, Below.refl _ _⟩ | exact ⟨rfl, (fun t ht => by injection ht with ht; subst ht; rfl), Below.refl _ _⟩)
              · (refine FixX.of (by first | rfl | kernel_rfl | (simp [Region.wanted, yielded]; done)) ?_; intro w' hS; have s0 := H6i.out.below hS hbl; have s1 := H6k.out.below hS hbl2; clear hS; unfold Oper.wp; go_simp; first | done | exact Below.refl _ _ | exact ⟨rfl, Below.refl _ _⟩ | exact ⟨rfl, (fun t ht => by injection ht with ht; subst ht; rfl), Below.refl _ _⟩)
              · (refine FixX.of (by first | rfl | kernel_rfl | (simp [Region.wanted, yielded]; done)) ?_; intro w' hS; have s0 := H6i.out.below hS hbl; have s1 := H6k.out.below hS hbl2; clear hS; unfold Oper.wp; go_simp; first | done | exact Below.refl _ _ | exact ⟨rfl, Below.refl _ _⟩ | exact ⟨rfl, (fun t ht => by injection ht with ht; subst ht; rfl), Below.refl _ _⟩)
              · (refine FixX.of (by first | rfl | kernel_rfl | (simp [Region.wanted, yielded]; done)) ?_; intro w' hS; have s0 := H6i.out.below hS hbl; have s1 := H6k.out.below hS hbl2; clear hS; unfold Oper.wp; go_simp; first | done | exact Below.refl _ _ | exact ⟨rfl, Below.refl _ _⟩ | exact ⟨rfl, (fun t ht => by injection ht with ht; subst ht; rfl), Below.refl _ _⟩)
              · (refine FixX.of (by first | rfl | kernel_rfl | (simp [Region.wanted, yielded]; done)) ?_; intro w' hS; have s0 := H6i.out.below hS hbl; have s1 := H6k.out.below hS hbl2; clear hS; unfold Oper.wp; go_simp; first | done | exact Below.refl _ _ | exact ⟨rfl, Below.refl _ _⟩ | exact ⟨rfl, (fun t ht => by injection ht with ht; subst ht; rfl), Below.refl _ _⟩)
              · (refine FixX.of (by first | rfl | kernel_rfl | (simp [Region.wanted, yielded]; done)) ?_; intro w' hS; have s0 := H6i.out.below hS hbl; have s1 := H6k.out.below hS hbl2; clear hS; unfold Oper.wp; go_simp; first | done | exact Below.refl _ _ | exact ⟨rfl, Below.refl _ _⟩ | exact ⟨rfl, (fun t ht => by injection ht with ht; subst ht; rfl), Below.refl _ _⟩)
              · (refine FixX.of (by first | rfl | kernel_rfl | (simp [Region.wanted, yielded]; done)) ?_; intro w' hS; have s0 := H6i.out.below hS hbl; have s1 := H6k.out.below hS hbl2; clear hS; unfold Oper.wp; go_simp; first | done | exact Below.refl _ _ | exact ⟨rfl, Below.refl _ _⟩ | exact ⟨rfl, (fun t ht => by injection ht with ht; subst ht; rfl), Below.refl _ _⟩)
              · (refine FixX.of (by first | rfl | kernel_rfl | (simp [Region.wanted, yielded]; done)) ?_; intro w' hS; have s3 := Lib.hid hS; unfold Oper.wp; clear hS; go_simp; refine (l01Times_any z x _ (by assumption)).mono ?_; rintro e w1 ⟨rfl, hb⟩; first | exact hb | exact ⟨rfl, hb⟩ | exact ⟨rfl, (fun t ht => by injection ht with ht; subst ht; rfl), hb⟩)
              · (refine FixX.of (by first | rfl | kernel_rfl | (simp [Region.wanted, yielded]; done)) ?_; intro w' hS; have s0 := H6i.out.below hS hbl; have s1 := H6k.out.below hS hbl2; clear hS; unfold Oper.wp; go_simp; first | done | exact Below.refl _ _ | exact ⟨rfl, Below.refl _ _⟩ | exact ⟨rfl, (fun t ht => by injection ht with ht; subst ht; rfl), Below.refl _ _⟩)
              · (refine FixX.of (by first | rfl | kernel_rfl | (simp [Region.wanted, yielded]; done)) ?_; intro w' hS; have s0 := H6i.out.below hS hbl; have s1 := H6k.out.below hS hbl2; clear hS; unfold Oper.wp; go_simp; first | done | exact Below.refl _ _ | exact ⟨rfl, Below.refl _ _⟩ | exact ⟨rfl, (fun t ht => by injection ht with ht; subst ht; rfl), Below.refl _ _⟩)
              · (refine FixX.of (by first | rfl | kernel_rfl | (simp [Region.wanted, yielded]; done)) ?_; intro w' hS; have s0 := H6i.out.below hS hbl; have s1 := H6k.out.below hS hbl2; clear hS; unfold Oper.wp; go_simp; first | done | exact Below.refl _ _ | exact ⟨rfl, Below.refl _ _⟩ | exact ⟨rfl, (fun t ht => by injection ht with ht; subst ht; rfl), Below.refl _ _⟩)
              · (refine FixX.of (by first | rfl | kernel_rfl | (simp [Region.wanted, yielded]; done)) ?_; intro w' hS; have s0 := H6i.out.below hS hbl; have s1 := H6k.out.below hS hbl2; clear hS; unfold Oper.wp; go_simp; first | done | exact Below.refl _ _ | exact ⟨rfl, Below.refl _ _⟩ | exact ⟨rfl, (fun t ht => by injection ht with ht; subst ht; rfl), Below.refl _ _⟩)
              · (refine FixX.of (by first | rfl | kernel_rfl | (simp [Region.wanted, yielded]; done)) ?_; intro w' hS; have s0 := H6i.out.below hS hbl; have s1 := H6k.out.below hS hbl2; clear hS; unfold Oper.wp; go_simp; first | done | exact Below.refl _ _ | exact ⟨rfl, Below.refl _ _⟩ | exact ⟨rfl, (fun t ht => by injection ht with ht; subst ht; rfl), Below.refl _ _⟩)
              · (refine FixX.of (by first | rfl | kernel_rfl | (simp [Region.wanted, yielded]; done)) ?_; intro w' hS; have s0 := H6i.out.below hS hbl; have s1 := H6k.out.below hS hbl2; clear hS; unfold Oper.wp; go_simp; first | done | exact Below.refl _ _ | exact ⟨rfl, Below.refl _ _⟩ | exact ⟨rfl, (fun t ht => by injection ht with ht; subst ht; rfl), Below.refl _ _⟩)
              · (refine FixX.of (by first | rfl | kernel_rfl | (simp [Region.wanted, yielded]; done)) ?_; intro w' hS; have s0 := H6i.out.below hS hbl; have s1 := H6k.out.below hS hbl2; clear hS; unfold Oper.wp; go_simp; first | done | exact Below.refl _ _ | exact ⟨rfl, Below.refl _ _⟩ | exact ⟨rfl, (fun t ht => by injection ht with ht; subst ht; rfl), Below.refl _ _⟩)
              · (refine FixX.of (by first | rfl | kernel_rfl | (simp [Region.wanted, yielded]; done)) ?_; intro w' hS; have s0 := H6i.out.below hS hbl; have s1 := H6k.out.below hS hbl2; clear hS; unfold Oper.wp; go_simp; first | done | exact Below.refl _ _ | exact ⟨rfl, Below.refl _ _⟩ | exact ⟨rfl, (fun t ht => by injection ht with ht; subst ht; rfl), Below.refl _ _⟩)
              · (refine FixX.of (by first | rfl | kernel_rfl | (simp [Region.wanted, yielded]; done)) ?_; intro w' hS; have s3 := Lib.hid hS; unfold Oper.wp; clear hS; go_simp; refine (l01Times_any x z _ (by assumption)).mono ?_; rintro e w1 ⟨rfl, hb⟩; first | exact hb | exact ⟨rfl, hb⟩ | exact ⟨rfl, (fun t ht => by injection ht with ht; subst ht; rfl), hb⟩)
              · (refine FixX.of (by first | rfl | kernel_rfl | (simp [Region.wanted, yielded]; done)) ?_; intro w' hS; have s0 := H6i.out.below hS hbl; have s1 := H6k.out.below hS hbl2; clear hS; unfold Oper.wp; go_simp; first | done | exact Below.refl _ _ | exact ⟨rfl, Below.refl _ _⟩ | exact ⟨rfl, (fun t ht => by injection ht with ht; subst ht; rfl), Below.refl _ _⟩)
              · (refine FixX.of (by first | rfl | kernel_rfl | (simp [Region.wanted, yielded]; done)) ?_; intro w' hS; have s0 := H6i.out.below hS hbl; have s1 := H6k.out.below hS hbl2; clear hS; unfold Oper.wp; go_simp; first | done | exact Below.refl _ _ | exact ⟨rfl, Below.refl _ _⟩ | exact ⟨rfl, (fun t ht => by injection ht with ht; subst ht; rfl), Below.refl _ _⟩)
              · (refine FixX.of (by first | rfl | kernel_rfl | (simp [Region.wanted, yielded]; done)) ?_; intro w' hS; have s0 := H6i.out.below hS hbl; have s1 := H6k.out.below hS hbl2; clear hS; unfold Oper.wp; go_simp; first | done | exact Below.refl _ _ | exact ⟨rfl, Below.refl _ _⟩ | exact ⟨rfl, (fun t ht => by injection ht with ht; subst ht; rfl), Below.refl _ _⟩)
            case hQ =>
            intro wc hS
            have HB2 := Lib.hid hS
            clear hS
            clear heq H6i H6k
            go_wp2_with fail
            go_roundw
            case rel => exact ⟨j + 1, by go_num, by omega, by rw [← Hz.out, Hs.out], Hb.out.trans (HB2.out.mono Hb.out.size), Ho.out.below HB2.out (Nat.le_refl _)⟩
            case measure => simp [intOf]; omega
        · have hji : ¬ (j : Int) < (m : Int) := by omega
          have htk : gens.take j = gens := List.take_of_length_le (by rw [Hgl.out]; omega)
          rw [htk]
          cases hg : gens.all (centQ (gm E q))
          · have Hz : Hid (centS gens (gm E q) = false) := hg
            have Hf : Hid ((E.take (q + 1)).filter (centS gens) = L) := by show _ = _; rw [filter_take (by rw [Hn.out]; exact hqN), Hz.out, ← HL.out]; simp
            clear hg htk
            go_wp2_with fail
            go_roundw
            case rel => exact ⟨q + 1, by go_num, by omega, Hb.out, by rw [Hf.out]; exact Ho.out⟩
            case measure => simp [intOf]; omega
          · have Hz : Hid (centS gens (gm E q) = true) := hg
            have hxx := Rd.more (Rd.below Hx.out Hb.out) Hb.out.size
            obtain ⟨x0, x1, x2, x3, x4, x5⟩ := (RdM.six hxx (k := q) (by rw [Hn.out]; exact hqN)).1
            obtain ⟨z, hzz⟩ : ∃ z, z = gm E q := ⟨_, rfl⟩
            rw [← hzz] at x0 x1 x2 x3 x4 x5
            have Hf : Hid ((E.take (q + 1)).filter (centS gens) = L ++ [z]) := by show _ = _; rw [filter_take (by rw [Hn.out]; exact hqN), Hz.out, ← HL.out, hzz]; simp
            have hsz := Hb.out.size
            clear hg hxx hzz Hz htk
            go_wp2_with (at_builtin; refine wpList_pushM rfl (.tmp 45) (.tmp 50) rfl w.heap.size (.slice A1 k1 c1) L rfl (Ho.out.alloc _) k1 Hk1.out wr.heap.size 1 z rfl (Blk.six (Blk.new _ _ _)) (by omega) (by simp; omega) (wr.heap.size + 1) (by simp) ?_; intro g' cap w4 ho' hgr hg' hlt'; have Hb4 := Lib.hid (((Ho.out.alloc (.cells (mc z) 31)).bel (Hb.out.alloc hsz _) hgr (Nat.le_refl _) (by simp; omega))); have Ho4 := Lib.hid ho'; clear ho' hgr hg' hlt')
            go_roundw
            case rel => exact ⟨q + 1, by go_num, by omega, Hb4.out, by rw [Hf.out]; exact Ho4.out⟩
            case measure => simp [intOf]; omega
    · obtain rfl : q = N := by omega
      have hqi : ¬ ((q : Int) < (q : Int)) := by omega
      have HR : Hid (E.filter (centS gens) = L) := by show _ = _; rw [HL.out, List.take_of_length_le (by rw [Hn.out]; exact Nat.le_refl _)]
      go_wp2_with fail
      go_ret
      exact ⟨_, rfl, by rw [HR.out]; exact Ho.out, Hb.out⟩
end Go.Proofs.Ytknknljkmkfmoaa
