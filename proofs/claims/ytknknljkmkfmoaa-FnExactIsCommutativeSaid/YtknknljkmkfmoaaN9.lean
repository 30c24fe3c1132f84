/- The contract of spec.l02Find; the list is as the theorem states. -/
import Derived.Test.YtknknljkmkfmoaaN7
import Derived.Test.YtknknljkmkfmoaaC11
namespace Go.Proofs.Ytknknljkmkfmoaa
open Go.RowKit
set_option maxRecDepth 100000

theorem Asc.less {E : List M} (h : Asc E) {i k : Nat} (hi : i < k) (hk : k < E.length) : lessM (gm E i) (gm E k) = true := by
  rw [gm_eq (by omega), gm_eq hk]
  exact List.pairwise_iff_getElem.1 h i k (by omega) hk hi
/-- the place where a map stands, or would stand, in an ascending list -/
structure Cut (E : List M) (f : M) (a b : Nat) : Prop where
  lo : ∀ j, j < a → lessM (gm E j) f = true
  hi : ∀ j, b ≤ j → j < E.length → lessM (gm E j) f = false
theorem Cut.up {E : List M} {f : M} {a b k : Nat} (h : Cut E f a b) (hA : Asc E) (hk : k < E.length) (hl : lessM (gm E k) f = true) : Cut E f (k + 1) b :=
  ⟨fun j hj => by
    by_cases e : j = k
    · rw [e]; exact hl
    · exact lessM_trans (hA.less (by omega) hk) hl, h.hi⟩
theorem Cut.down {E : List M} {f : M} {a b k : Nat} (h : Cut E f a b) (hA : Asc E) (hl : lessM (gm E k) f = false) : Cut E f a k :=
  ⟨h.lo, fun j hj hjl => by
    by_cases e : j = k
    · rw [e]; exact hl
    · rw [Bool.eq_false_iff]
      intro h2
      rw [lessM_trans (hA.less (by omega) hjl) h2] at hl
      cases hl⟩
theorem Cut.in_ {E : List M} {f : M} {a : Nat} (h : Cut E f a a) (hA : Asc E) (hf : f ∈ E) : a < E.length ∧ gm E a = f ∧ ix E f = a := by
  have hi := ix_lt hf
  have hg := gm_ix hf
  have h1 : ¬ ix E f < a := fun hl => by have := h.lo _ hl; rw [hg, lessM_irr] at this; cases this
  have h2 : ¬ a < ix E f := fun hl => by
    have h3 := hA.less hl hi
    rw [hg, h.hi a (Nat.le_refl _) (by omega)] at h3
    cases h3
  have e : ix E f = a := by omega
  exact ⟨by omega, by rw [← e]; exact hg, e⟩
theorem Cut.eq {E : List M} {f : M} {a : Nat} (h : Cut E f a a) (hA : Asc E) (ha : a < E.length) : gm E a = f ↔ f ∈ E :=
  ⟨fun e => by rw [← e]; exact gm_mem ha, fun hf => (h.in_ hA hf).2.1⟩

def findR (E : List M) (f : M) : Int := plOf E f - 1

theorem l02Find_any (A : Option Addr) (N c : Nat) (E : List M) (f : M) (w : World) (hx : RdM w w.heap.size A E) (hn : E.length = N) (hN : N < 1073741824) (hA : Asc E) (hE : ∀ g ∈ E, Valid g) (hf : Valid f) :
    Calls Try.prog 80 #[.slice A N c, .agg (mc f)] w fun e w' => e = .returned (I (plOf E f - 1)) ∧ Below w.heap.size w w' := by
  have Hx := Lib.hid hx
  have Hn := Lib.hid hn
  have HE := Lib.hid hE
  have HA := Lib.hid hA
  clear hx hn hE hA
  go_enter Try.func80, Try.ntmps80
  go_wp2_with fail
  obtain ⟨wb, hwb⟩ : ∃ wb, wb = w.alloc (.cells (mc f) 31) := ⟨_, rfl⟩
  have H6 : Hid (Six wb w.heap.size f) := by show Six _ _ _; rw [hwb]; exact Blk.six (Blk.new w _ _)
  have Hbb : Hid (Below w.heap.size w wb) := by show Below _ _ _; rw [hwb]; exact (Below.refl _ _).alloc (Nat.le_refl _) _
  have hsb : wb.heap.size = w.heap.size + 1 := by rw [hwb]; simp
  try rw [← hwb]
  clear hwb
  go_loopw [5, 6] (fun lo hi wr => ∃ a b : Nat, lo = .int .i64 a ∧ hi = .int .i64 b ∧ a ≤ b ∧ b ≤ N ∧ Below wb.heap.size wb wr ∧ Cut E f a b) (fun lo hi _ => (intOf hi).toNat - (intOf lo).toNat)
  case atStart => exact ⟨0, N, rfl, rfl, by omega, Nat.le_refl _, Below.refl _ _, fun j hj => by omega, fun j hj hl => by rw [Hn.out] at hl; omega⟩
  case round =>
    obtain ⟨a, b, rfl, rfl, hab, hbN, hb, hC⟩ := hrel
    have Hb := Lib.hid hb
    have HC := Lib.hid hC
    have hsz := hb.size
    clear hb hC
    by_cases hlt : a < b
    · have hi : (a : Int) < (b : Int) := by omega
      obtain ⟨k, hk⟩ : ∃ k : Nat, ((a : Int) + (b : Int)) / 2 = k := ⟨(a + b) / 2, by omega⟩
      have hak : a ≤ k := by omega
      have hkb : k < b := by omega
      go_wp2_with fail
      rw [hk]
      clear hk
      obtain ⟨b2, off2, rfl, hbb2, h6⟩ := RdM.at_ (Rd.below (Rd.below Hx.out Hbb.out) (Hb.out.mono Hbb.out.size)) (k := k) (by rw [Hn.out]; omega)
      obtain ⟨g, hg⟩ : ∃ g, g = gm E k := ⟨_, rfl⟩
      rw [← hg] at h6
      have hvg : Valid g := HE.out g (by rw [hg]; exact gm_mem (by rw [Hn.out]; omega))
      have H6k := Lib.hid h6
      have hkN : (k : Int) < (N : Int) := by omega
      have h6l : b2 < wr.heap.size := by omega
      have H6w := Lib.hid (H6.out.below Hb.out (by omega))
      have h6wl : w.heap.size < wr.heap.size := by omega
      have Hg := Lib.hid hg
      clear h6 hg
      refine wp_region_same [] rfl (by kernel_rfl) (by kernel_rfl) (by kernel_rfl) (fun w' => Below wr.heap.size wr w') _
        [.slice (some ⟨b2, off2, none⟩) N c, I k, .pointer (some ⟨b2, off2 + k * 6, none⟩), .agg (mc g), .agg (mc f), .bool (lessM g f)]
        (by simp only [putAll, List.setIfInBounds_toArray, List.set_cons_succ, List.set_cons_zero]; rfl) (Below.refl _ _).drew ?hop ?hQ
      case hop =>
        refine FixBL.toL (fun w' w'' hS hb => hS.trans (hb.mono hS.size)) _ _ ?_
        refine ⟨.inr ?_, .inr ?_, .inr ?_, .inr ?_, .inr ?_, .inr ?_, trivial⟩
        · (with_reducible refine FixB.of ?_ ?_; rfl; intro w' hS; have s0 := H6k.out.below hS h6l; have s1 := H6w.out.below hS h6wl; clear hS; unfold Oper.wp; go_simp; first | done | exact Below.refl _ _)
        · (with_reducible refine FixB.of ?_ ?_; rfl; intro w' hS; have s0 := H6k.out.below hS h6l; have s1 := H6w.out.below hS h6wl; clear hS; unfold Oper.wp; go_simp; first | done | exact Below.refl _ _)
        · (with_reducible refine FixB.of ?_ ?_; rfl; intro w' hS; have s0 := H6k.out.below hS h6l; have s1 := H6w.out.below hS h6wl; clear hS; unfold Oper.wp; go_simp; first | done | exact Below.refl _ _)
        · (with_reducible refine FixB.of ?_ ?_; rfl; intro w' hS; have s0 := H6k.out.below hS h6l; have s1 := H6w.out.below hS h6wl; clear hS; unfold Oper.wp; go_simp; first | done | exact Below.refl _ _)
        · (with_reducible refine FixB.of ?_ ?_; rfl; intro w' hS; have s0 := H6k.out.below hS h6l; have s1 := H6w.out.below hS h6wl; clear hS; unfold Oper.wp; go_simp; first | done | exact Below.refl _ _)
        · (with_reducible refine FixB.of ?_ ?_; rfl; intro w' hS; have s3 := Lib.hid hS; unfold Oper.wp; clear hS; go_simp; refine (l01Less_any g f _ hvg hf).mono ?_; rintro e w1 ⟨rfl, hb⟩; exact ⟨rfl, hb⟩)
      case hQ =>
        intro wc hS _
        have Hb3 := Lib.hid (Hb.out.trans (hS.mono hsz))
        clear hS H6k H6w
        cases hl : lessM g f
        · have HC2 := Lib.hid (HC.out.down HA.out (k := k) (by rw [← Hg.out]; exact hl))
          go_wp2
          go_roundw
          case rel => exact ⟨a, k, by go_num, by go_num, by omega, by omega, Hb3.out, HC2.out⟩
          case measure => simp [intOf]; omega
        · have HC2 := Lib.hid (HC.out.up HA.out (k := k) (by rw [Hn.out]; omega) (by rw [← Hg.out]; exact hl))
          go_wp2
          go_roundw
          case rel => exact ⟨k + 1, b, by go_num, by go_num, by omega, by omega, Hb3.out, HC2.out⟩
          case measure => simp [intOf]; omega
    · obtain rfl : a = b := by omega
      have hi : ¬ ((a : Int) < (a : Int)) := by omega
      have H6w := Lib.hid (H6.out.below Hb.out (by omega))
      have h6wl : w.heap.size < wr.heap.size := by omega
      have Hbw := Lib.hid (Hbb.out.trans (Hb.out.mono Hbb.out.size))
      have b0 := plOf_bd E f
      by_cases haN : a < N
      · obtain ⟨b2, off2, rfl, hbb2, h6⟩ := RdM.at_ (Rd.below Hx.out Hbw.out) (k := a) (by rw [Hn.out]; omega)
        obtain ⟨g, hg⟩ : ∃ g, g = gm E a := ⟨_, rfl⟩
        rw [← hg] at h6
        have H6k := Lib.hid h6
        have hkN : (a : Int) < (N : Int) := by omega
        have h6l : b2 < wr.heap.size := by omega
        have heq := eqMap_run g f
        obtain ⟨d, hd⟩ : ∃ d, d = decide (g = f) := ⟨_, rfl⟩
        rw [← hd] at heq
        have Hd := Lib.hid hd
        have Hg := Lib.hid hg
        clear h6 hg hd b0
        go_wp2_with fail
        refine wp_region_same [] rfl (by kernel_rfl) (by kernel_rfl) (by kernel_rfl) (fun w' => Below wr.heap.size wr w') _
          [I a, .slice (some ⟨b2, off2, none⟩) N c, I N, .bool true, .bool true, .slice (some ⟨b2, off2, none⟩) N c, I a, .pointer (some ⟨b2, off2 + a * 6, none⟩), .agg (mc g), .agg (mc f), .bool d, .bool d]
          (by simp only [putAll, List.setIfInBounds_toArray, List.set_cons_succ, List.set_cons_zero]; rfl) (Below.refl _ _).drew ?hop ?hQ
        case hop =>
          refine FixBL.toL (fun w' w'' hS hb => hS.trans (hb.mono hS.size)) _ _ ?_
          refine ⟨.inr ?_, .inr ?_, .inr ?_, .inr ?_, .inr ?_, .inr ?_, .inr ?_, .inr ?_, .inr ?_, .inr ?_, .inr ?_, .inr ?_, trivial⟩
          · (with_reducible refine FixB.of ?_ ?_; rfl; intro w' hS; have s0 := H6k.out.below hS h6l; have s1 := H6w.out.below hS h6wl; clear hS; unfold Oper.wp; go_simp; first | done | exact Below.refl _ _)
          · (with_reducible refine FixB.of ?_ ?_; rfl; intro w' hS; have s0 := H6k.out.below hS h6l; have s1 := H6w.out.below hS h6wl; clear hS; unfold Oper.wp; go_simp; first | done | exact Below.refl _ _)
          · (with_reducible refine FixB.of ?_ ?_; rfl; intro w' hS; have s0 := H6k.out.below hS h6l; have s1 := H6w.out.below hS h6wl; clear hS; unfold Oper.wp; go_simp; first | done | exact Below.refl _ _)
          · (with_reducible refine FixB.of ?_ ?_; rfl; intro w' hS; have s0 := H6k.out.below hS h6l; have s1 := H6w.out.below hS h6wl; clear hS; unfold Oper.wp; go_simp; first | done | exact Below.refl _ _)
          · (with_reducible refine FixB.of ?_ ?_; rfl; intro w' hS; have s0 := H6k.out.below hS h6l; have s1 := H6w.out.below hS h6wl; clear hS; unfold Oper.wp; go_simp; first | done | exact Below.refl _ _)
          · (refine FixB.on (by first | rfl | kernel_rfl | (simp [Region.wanted, yielded]; done)) ?_; intro w' hS; have s0 := H6k.out.below hS h6l; have s1 := H6w.out.below hS h6wl; clear hS; unfold Oper.wp; go_simp; first | done | exact Below.refl _ _)
          · (refine FixB.on (by first | rfl | kernel_rfl | (simp [Region.wanted, yielded]; done)) ?_; intro w' hS; have s0 := H6k.out.below hS h6l; have s1 := H6w.out.below hS h6wl; clear hS; unfold Oper.wp; go_simp; first | done | exact Below.refl _ _)
          · (refine FixB.on (by first | rfl | kernel_rfl | (simp [Region.wanted, yielded]; done)) ?_; intro w' hS; have s0 := H6k.out.below hS h6l; have s1 := H6w.out.below hS h6wl; clear hS; unfold Oper.wp; go_simp; first | done | exact Below.refl _ _)
          · (refine FixB.on (by first | rfl | kernel_rfl | (simp [Region.wanted, yielded]; done)) ?_; intro w' hS; have s0 := H6k.out.below hS h6l; have s1 := H6w.out.below hS h6wl; clear hS; unfold Oper.wp; go_simp; first | done | exact Below.refl _ _)
          · (refine FixB.on (by first | rfl | kernel_rfl | (simp [Region.wanted, yielded]; done)) ?_; intro w' hS; have s0 := H6k.out.below hS h6l; have s1 := H6w.out.below hS h6wl; clear hS; unfold Oper.wp; go_simp; first | done | exact Below.refl _ _)
          · (refine FixB.on (by first | rfl | kernel_rfl | (simp [Region.wanted, yielded]; done)) ?_; intro w' hS; have s0 := H6k.out.below hS h6l; have s1 := H6w.out.below hS h6wl; clear hS; unfold Oper.wp; go_simp; first | done | exact Below.refl _ _)
          · (with_reducible refine FixB.of ?_ ?_; rfl; intro w' hS; have s0 := H6k.out.below hS h6l; have s1 := H6w.out.below hS h6wl; clear hS; unfold Oper.wp; go_simp; first | done | exact Below.refl _ _)
        case hQ =>
          intro wc hS _
          have Hb3 := Lib.hid (Hbw.out.trans (hS.mono Hbw.out.size))
          clear hS H6k H6w heq
          have he := HC.out.eq HA.out (by rw [Hn.out]; exact haN)
          rw [← Hg.out] at he
          cases hdd : d
          · have hnf : f ∉ E := fun h => by have := Hd.out; rw [hdd, he.2 h] at this; simp at this
            have Hp : Hid (plOf E f - 1 = -1) := by show _ = _; rw [plOf_out hnf]; rfl
            clear he
            go_wp2
            go_ret
            exact ⟨by rw [Hp.out] <;> rfl, Hb3.out⟩
          · have hgf : g = f := by have := Hd.out; rw [hdd] at this; exact of_decide_eq_true this.symm
            have hin := he.1 hgf
            have Hp : Hid (plOf E f - 1 = (a : Int)) := by show _ = _; rw [plOf_in hin, (HC.out.in_ HA.out hin).2.2]; omega
            have hw1 : IntKind.i64.wrap (a : Int) = a := IntWalk.i64_in _ ⟨by omega, by omega⟩
            clear he hgf
            go_wp2
            go_ret
            exact ⟨by rw [Hp.out] <;> rfl, Hb3.out⟩
      · have hnf : f ∉ E := fun h => by have := (HC.out.in_ HA.out h).1; rw [Hn.out] at this; omega
        have Hp : Hid (plOf E f - 1 = -1) := by show _ = _; rw [plOf_out hnf]; rfl
        have hkN : ¬ ((a : Int) < (N : Int)) := by omega
        clear b0
        go_wp2_with fail
        refine wp_region_same [] rfl (by kernel_rfl) (by kernel_rfl) (by kernel_rfl) (fun w' => Below wr.heap.size wr w') _
          [I a, .slice A N c, I N, .bool false, .bool false, undef, undef, undef, undef, undef, undef, .bool false]
          (by simp only [putAll, List.setIfInBounds_toArray, List.set_cons_succ, List.set_cons_zero]; rfl) (Below.refl _ _).drew ?hop ?hQ
        case hop =>
          refine FixBL.toL (fun w' w'' hS hb => hS.trans (hb.mono hS.size)) _ _ ?_
          refine ⟨.inr ?_, .inr ?_, .inr ?_, .inr ?_, .inr ?_, .inr ?_, .inr ?_, .inr ?_, .inr ?_, .inr ?_, .inr ?_, .inr ?_, trivial⟩
          · (with_reducible refine FixB.of ?_ ?_; rfl; intro w' hS; clear hS; unfold Oper.wp; go_simp; first | done | exact Below.refl _ _)
          · (with_reducible refine FixB.of ?_ ?_; rfl; intro w' hS; clear hS; unfold Oper.wp; go_simp; first | done | exact Below.refl _ _)
          · (with_reducible refine FixB.of ?_ ?_; rfl; intro w' hS; clear hS; unfold Oper.wp; go_simp; first | done | exact Below.refl _ _)
          · (with_reducible refine FixB.of ?_ ?_; rfl; intro w' hS; clear hS; unfold Oper.wp; go_simp; first | done | exact Below.refl _ _)
          · (with_reducible refine FixB.of ?_ ?_; rfl; intro w' hS; clear hS; unfold Oper.wp; go_simp; first | done | exact Below.refl _ _)
          · exact FixB.off (by first | rfl | kernel_rfl | (simp [Region.wanted, yielded]; done)) rfl
          · exact FixB.off (by first | rfl | kernel_rfl | (simp [Region.wanted, yielded]; done)) rfl
          · exact FixB.off (by first | rfl | kernel_rfl | (simp [Region.wanted, yielded]; done)) rfl
          · exact FixB.off (by first | rfl | kernel_rfl | (simp [Region.wanted, yielded]; done)) rfl
          · exact FixB.off (by first | rfl | kernel_rfl | (simp [Region.wanted, yielded]; done)) rfl
          · exact FixB.off (by first | rfl | kernel_rfl | (simp [Region.wanted, yielded]; done)) rfl
          · (with_reducible refine FixB.of ?_ ?_; rfl; intro w' hS; clear hS; unfold Oper.wp; go_simp; first | done | exact Below.refl _ _)
        case hQ =>
          intro wc hS _
          have Hb3 := Lib.hid (Hbw.out.trans (hS.mono Hbw.out.size))
          clear hS
          go_wp2
          go_ret
          exact ⟨by rw [Hp.out] <;> rfl, Hb3.out⟩
end Go.Proofs.Ytknknljkmkfmoaa
