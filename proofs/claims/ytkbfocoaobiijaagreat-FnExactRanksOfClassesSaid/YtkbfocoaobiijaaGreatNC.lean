/- The contract of spec.l02Find; the list is as the theorem states. Where a map is put into an ascending list; append of a list of maps in a region of any order. The contract of spec.l01Put; the list is as the theorem states. Rows of numbers joined; the copy of the reference; what stands while the reference searches for the elements of a monoid; no conditions beyond those that each theorem states. -/
import Derived.Test.YtkbfocoaobiijaaGreatNB
import Derived.Test.YtkbfocoaobiijaaGreatC11
namespace Go.Proofs.YtkbfocoaobiijaaGreat
open Go.RowKit
set_option maxRecDepth 100000

theorem Asc.less {E : List M} (h : Asc E) {i k : Nat} (hi : i < k) (hk : k < E.length) : lessM (gm E i) (gm E k) = true := by
  rw [gm_eq (by omega), gm_eq hk]
  exact List.pairwise_iff_getElem.1 h i k (by omega) hk hi
/-- the place where a map stands, or would stand, in an ascending list -/
structure Cut (E : List M) (f : M) (a b : Nat) : Prop where
  lo : ∀ j, j < a → lessM (gm E j) f = true
  hi : ∀ j, b ≤ j → j < E.length → lessM (gm E j) f = false
theorem Cut.up {E : List M} {f : M} {a b k : Nat} (h : Cut E f a b) (hA : Asc E) (hk : k < E.length) (hl : lessM (gm E k) f = true) : Cut E f (k + 1) b :=
  ⟨fun j hj => by
    by_cases e : j = k
    · rw [e]; exact hl
    · exact lessM_trans (hA.less (by omega) hk) hl, h.hi⟩
theorem Cut.down {E : List M} {f : M} {a b k : Nat} (h : Cut E f a b) (hA : Asc E) (hl : lessM (gm E k) f = false) : Cut E f a k :=
  ⟨h.lo, fun j hj hjl => by
    by_cases e : j = k
    · rw [e]; exact hl
    · rw [Bool.eq_false_iff]
      intro h2
      rw [lessM_trans (hA.less (by omega) hjl) h2] at hl
      cases hl⟩
theorem Cut.in_ {E : List M} {f : M} {a : Nat} (h : Cut E f a a) (hA : Asc E) (hf : f ∈ E) : a < E.length ∧ gm E a = f ∧ ix E f = a := by
  have hi := ix_lt hf
  have hg := gm_ix hf
  have h1 : ¬ ix E f < a := fun hl => by have := h.lo _ hl; rw [hg, lessM_irr] at this; cases this
  have h2 : ¬ a < ix E f := fun hl => by
    have h3 := hA.less hl hi
    rw [hg, h.hi a (Nat.le_refl _) (by omega)] at h3
    cases h3
  have e : ix E f = a := by omega
  exact ⟨by omega, by rw [← e]; exact hg, e⟩
theorem Cut.eq {E : List M} {f : M} {a : Nat} (h : Cut E f a a) (hA : Asc E) (ha : a < E.length) : gm E a = f ↔ f ∈ E :=
  ⟨fun e => by rw [← e]; exact gm_mem ha, fun hf => (h.in_ hA hf).2.1⟩

def findR (E : List M) (f : M) : Int := plOf E f - 1

theorem l02Find_any (A : Option Addr) (N c : Nat) (E : List M) (f : M) (w : World) (hx : RdM w w.heap.size A E) (hn : E.length = N) (hN : N < 1073741824) (hA : Asc E) (hE : ∀ g ∈ E, Valid g) (hf : Valid f) :
    Calls Tryz.prog 122 #[.slice A N c, .agg (mc f)] w fun e w' => e = .returned (I (plOf E f - 1)) ∧ Below w.heap.size w w' := by
  have Hx := Lib.hid hx
  have Hn := Lib.hid hn
  have HE := Lib.hid hE
  have HA := Lib.hid hA
  clear hx hn hE hA
  go_enter Tryz.func122, Tryz.ntmps122
  go_wp2_with fail
  obtain ⟨wb, hwb⟩ : ∃ wb, wb = w.alloc (.cells (mc f) 31) := ⟨_, rfl⟩
  have H6 : Hid (Six wb w.heap.size f) := by show Six _ _ _; rw [hwb]; exact Blk.six (Blk.new w _ _)
  have Hbb : Hid (Below w.heap.size w wb) := by show Below _ _ _; rw [hwb]; exact (Below.refl _ _).alloc (Nat.le_refl _) _
  have hsb : wb.heap.size = w.heap.size + 1 := by rw [hwb]; simp
  try rw [← hwb]
  clear hwb
  go_loopw [5, 6] (fun lo hi wr => ∃ a b : Nat, lo = .int .i64 a ∧ hi = .int .i64 b ∧ a ≤ b ∧ b ≤ N ∧ Below wb.heap.size wb wr ∧ Cut E f a b) (fun lo hi _ => (intOf hi).toNat - (intOf lo).toNat)
  case atStart => exact ⟨0, N, rfl, rfl, by omega, Nat.le_refl _, Below.refl _ _, fun j hj => by omega, fun j hj hl => by rw [Hn.out] at hl; omega⟩
  case round =>
    obtain ⟨a, b, rfl, rfl, hab, hbN, hb, hC⟩ := hrel
    have Hb := Lib.hid hb
    have HC := Lib.hid hC
    have hsz := hb.size
    clear hb hC
    by_cases hlt : a < b
    · have hi : (a : Int) < (b : Int) := by omega
      obtain ⟨k, hk⟩ : ∃ k : Nat, ((a : Int) + (b : Int)) / 2 = k := ⟨(a + b) / 2, by omega⟩
      have hak : a ≤ k := by omega
      have hkb : k < b := by omega
      go_wp2_with fail
      rw [hk]
      clear hk
      obtain ⟨b2, off2, rfl, hbb2, h6⟩ := RdM.at_ (Rd.below (Rd.below Hx.out Hbb.out) (Hb.out.mono Hbb.out.size)) (k := k) (by rw [Hn.out]; omega)
      obtain ⟨g, hg⟩ : ∃ g, g = gm E k := ⟨_, rfl⟩
      rw [← hg] at h6
      have hvg : Valid g := HE.out g (by rw [hg]; exact gm_mem (by rw [Hn.out]; omega))
      have H6k := Lib.hid h6
      have hkN : (k : Int) < (N : Int) := by omega
      have h6l : b2 < wr.heap.size := by omega
      have H6w := Lib.hid (H6.out.below Hb.out (by omega))
      have h6wl : w.heap.size < wr.heap.size := by omega
      have Hg := Lib.hid hg
      clear h6 hg
      refine wp_region_same [] rfl (by kernel_rfl) (by kernel_rfl) (by kernel_rfl) (fun w' => Below wr.heap.size wr w') _
        [.slice (some ⟨b2, off2, none⟩) N c, I k, .pointer (some ⟨b2, off2 + k * 6, none⟩), .agg (mc g), .agg (mc f), .bool (lessM g f)]
        (by simp only [putAll, List.setIfInBounds_toArray, List.set_cons_succ, List.set_cons_zero]; rfl) (Below.refl _ _).drew ?hop ?hQ
      case hop =>
        refine FixBL.toL (fun w' w'' hS hb => hS.trans (hb.mono hS.size)) _ _ ?_
        refine ⟨.inr ?_, .inr ?_, .inr ?_, .inr ?_, .inr ?_, .inr ?_, trivial⟩
        · (with_reducible refine FixB.of ?_ ?_; rfl; intro w' hS; have s0 := H6k.out.below hS h6l; have s1 := H6w.out.below hS h6wl; clear hS; unfold Oper.wp; go_simp; first | done | exact Below.refl _ _)
        · (with_reducible refine FixB.of ?_ ?_; rfl; intro w' hS; have s0 := H6k.out.below hS h6l; have s1 := H6w.out.below hS h6wl; clear hS; unfold Oper.wp; go_simp; first | done | exact Below.refl _ _)
        · (with_reducible refine FixB.of ?_ ?_; rfl; intro w' hS; have s0 := H6k.out.below hS h6l; have s1 := H6w.out.below hS h6wl; clear hS; unfold Oper.wp; go_simp; first | done | exact Below.refl _ _)
        · (with_reducible refine FixB.of ?_ ?_; rfl; intro w' hS; have s0 := H6k.out.below hS h6l; have s1 := H6w.out.below hS h6wl; clear hS; unfold Oper.wp; go_simp; first | done | exact Below.refl _ _)
        · (with_reducible refine FixB.of ?_ ?_; rfl; intro w' hS; have s0 := H6k.out.below hS h6l; have s1 := H6w.out.below hS h6wl; clear hS; unfold Oper.wp; go_simp; first | done | exact Below.refl _ _)
        · (with_reducible refine FixB.of ?_ ?_; rfl; intro w' hS; have s3 := Lib.hid hS; unfold Oper.wp; clear hS; go_simp; refine (l01Less_any g f _ hvg hf).mono ?_; rintro e w1 ⟨rfl, hb⟩; exact ⟨rfl, hb⟩)
      case hQ =>
        intro wc hS _
        have Hb3 := Lib.hid (Hb.out.trans (hS.mono hsz))
        clear hS H6k H6w
        cases hl : lessM g f
        · have HC2 := Lib.hid (HC.out.down HA.out (k := k) (by rw [← Hg.out]; exact hl))
          go_wp2
          go_roundw
          case rel => exact ⟨a, k, by go_num, by go_num, by omega, by omega, Hb3.out, HC2.out⟩
          case measure => simp [intOf]; omega
        · have HC2 := Lib.hid (HC.out.up HA.out (k := k) (by rw [Hn.out]; omega) (by rw [← Hg.out]; exact hl))
          go_wp2
          go_roundw
          case rel => exact ⟨k + 1, b, by go_num, by go_num, by omega, by omega, Hb3.out, HC2.out⟩
          case measure => simp [intOf]; omega
    · obtain rfl : a = b := by omega
      have hi : ¬ ((a : Int) < (a : Int)) := by omega
      have H6w := Lib.hid (H6.out.below Hb.out (by omega))
      have h6wl : w.heap.size < wr.heap.size := by omega
      have Hbw := Lib.hid (Hbb.out.trans (Hb.out.mono Hbb.out.size))
      have b0 := plOf_bd E f
      by_cases haN : a < N
      · obtain ⟨b2, off2, rfl, hbb2, h6⟩ := RdM.at_ (Rd.below Hx.out Hbw.out) (k := a) (by rw [Hn.out]; omega)
        obtain ⟨g, hg⟩ : ∃ g, g = gm E a := ⟨_, rfl⟩
        rw [← hg] at h6
        have H6k := Lib.hid h6
        have hkN : (a : Int) < (N : Int) := by omega
        have h6l : b2 < wr.heap.size := by omega
        have heq := eqMap_run g f
        obtain ⟨d, hd⟩ : ∃ d, d = decide (g = f) := ⟨_, rfl⟩
        rw [← hd] at heq
        have Hd := Lib.hid hd
        have Hg := Lib.hid hg
        clear h6 hg hd b0
        go_wp2_with fail
        refine wp_region_same [] rfl (by kernel_rfl) (by kernel_rfl) (by kernel_rfl) (fun w' => Below wr.heap.size wr w') _
          [I a, .slice (some ⟨b2, off2, none⟩) N c, I N, .bool true, .bool true, .slice (some ⟨b2, off2, none⟩) N c, I a, .pointer (some ⟨b2, off2 + a * 6, none⟩), .agg (mc g), .agg (mc f), .bool d, .bool d]
          (by simp only [putAll, List.setIfInBounds_toArray, List.set_cons_succ, List.set_cons_zero]; rfl) (Below.refl _ _).drew ?hop ?hQ
        case hop =>
          refine FixBL.toL (fun w' w'' hS hb => hS.trans (hb.mono hS.size)) _ _ ?_
          refine ⟨.inr ?_, .inr ?_, .inr ?_, .inr ?_, .inr ?_, .inr ?_, .inr ?_, .inr ?_, .inr ?_, .inr ?_, .inr ?_, .inr ?_, trivial⟩
          · (with_reducible refine FixB.of ?_ ?_; rfl; intro w' hS; have s0 := H6k.out.below hS h6l; have s1 := H6w.out.below hS h6wl; clear hS; unfold Oper.wp; go_simp; first | done | exact Below.refl _ _)
          · (with_reducible refine FixB.of ?_ ?_; rfl; intro w' hS; have s0 := H6k.out.below hS h6l; have s1 := H6w.out.below hS h6wl; clear hS; unfold Oper.wp; go_simp; first | done | exact Below.refl _ _)
          · (with_reducible refine FixB.of ?_ ?_; rfl; intro w' hS; have s0 := H6k.out.below hS h6l; have s1 := H6w.out.below hS h6wl; clear hS; unfold Oper.wp; go_simp; first | done | exact Below.refl _ _)
          · (with_reducible refine FixB.of ?_ ?_; rfl; intro w' hS; have s0 := H6k.out.below hS h6l; have s1 := H6w.out.below hS h6wl; clear hS; unfold Oper.wp; go_simp; first | done | exact Below.refl _ _)
          · (with_reducible refine FixB.of ?_ ?_; rfl; intro w' hS; have s0 := H6k.out.below hS h6l; have s1 := H6w.out.below hS h6wl; clear hS; unfold Oper.wp; go_simp; first | done | exact Below.refl _ _)
          · (refine FixB.on (by first | rfl | kernel_rfl | (simp [Region.wanted, yielded]; done)) ?_; intro w' hS; have s0 := H6k.out.below hS h6l; have s1 := H6w.out.below hS h6wl; clear hS; unfold Oper.wp; go_simp; first | done | exact Below.refl _ _)
          · (refine FixB.on (by first | rfl | kernel_rfl | (simp [Region.wanted, yielded]; done)) ?_; intro w' hS; have s0 := H6k.out.below hS h6l; have s1 := H6w.out.below hS h6wl; clear hS; unfold Oper.wp; go_simp; first | done | exact Below.refl _ _)
          · (refine FixB.on (by first | rfl | kernel_rfl | (simp [Region.wanted, yielded]; done)) ?_; intro w' hS; have s0 := H6k.out.below hS h6l; have s1 := H6w.out.below hS h6wl; clear hS; unfold Oper.wp; go_simp; first | done | exact Below.refl _ _)
          · (refine FixB.on (by first | rfl | kernel_rfl | (simp [Region.wanted, yielded]; done)) ?_; intro w' hS; have s0 := H6k.out.below hS h6l; have s1 := H6w.out.below hS h6wl; clear hS; unfold Oper.wp; go_simp; first | done | exact Below.refl _ _)
          · (refine FixB.on (by first | rfl | kernel_rfl | (simp [Region.wanted, yielded]; done)) ?_; intro w' hS; have s0 := H6k.out.below hS h6l; have s1 := H6w.out.below hS h6wl; clear hS; unfold Oper.wp; go_simp; first | done | exact Below.refl _ _)
          · (refine FixB.on (by first | rfl | kernel_rfl | (simp [Region.wanted, yielded]; done)) ?_; intro w' hS; have s0 := H6k.out.below hS h6l; have s1 := H6w.out.below hS h6wl; clear hS; unfold Oper.wp; go_simp; first | done | exact Below.refl _ _)
          · (with_reducible refine FixB.of ?_ ?_; rfl; intro w' hS; have s0 := H6k.out.below hS h6l; have s1 := H6w.out.below hS h6wl; clear hS; unfold Oper.wp; go_simp; first | done | exact Below.refl _ _)
        case hQ =>
          intro wc hS _
          have Hb3 := Lib.hid (Hbw.out.trans (hS.mono Hbw.out.size))
          clear hS H6k H6w heq
          have he := HC.out.eq HA.out (by rw [Hn.out]; exact haN)
          rw [← Hg.out] at he
          cases hdd : d
          · have hnf : f ∉ E := fun h => by have := Hd.out; rw [hdd, he.2 h] at this; simp at this
            have Hp : Hid (plOf E f - 1 = -1) := by show _ = _; rw [plOf_out hnf]; rfl
            clear he
            go_wp2
            go_ret
            exact ⟨by rw [Hp.out] <;> rfl, Hb3.out⟩
          · have hgf : g = f := by have := Hd.out; rw [hdd] at this; exact of_decide_eq_true this.symm
            have hin := he.1 hgf
            have Hp : Hid (plOf E f - 1 = (a : Int)) := by show _ = _; rw [plOf_in hin, (HC.out.in_ HA.out hin).2.2]; omega
            have hw1 : IntKind.i64.wrap (a : Int) = a := IntWalk.i64_in _ ⟨by omega, by omega⟩
            clear he hgf
            go_wp2
            go_ret
            exact ⟨by rw [Hp.out] <;> rfl, Hb3.out⟩
      · have hnf : f ∉ E := fun h => by have := (HC.out.in_ HA.out h).1; rw [Hn.out] at this; omega
        have Hp : Hid (plOf E f - 1 = -1) := by show _ = _; rw [plOf_out hnf]; rfl
        have hkN : ¬ ((a : Int) < (N : Int)) := by omega
        clear b0
        go_wp2_with fail
        refine wp_region_same [] rfl (by kernel_rfl) (by kernel_rfl) (by kernel_rfl) (fun w' => Below wr.heap.size wr w') _
          [I a, .slice A N c, I N, .bool false, .bool false, undef, undef, undef, undef, undef, undef, .bool false]
          (by simp only [putAll, List.setIfInBounds_toArray, List.set_cons_succ, List.set_cons_zero]; rfl) (Below.refl _ _).drew ?hop ?hQ
        case hop =>
          refine FixBL.toL (fun w' w'' hS hb => hS.trans (hb.mono hS.size)) _ _ ?_
          refine ⟨.inr ?_, .inr ?_, .inr ?_, .inr ?_, .inr ?_, .inr ?_, .inr ?_, .inr ?_, .inr ?_, .inr ?_, .inr ?_, .inr ?_, trivial⟩
          · (with_reducible refine FixB.of ?_ ?_; rfl; intro w' hS; clear hS; unfold Oper.wp; go_simp; first | done | exact Below.refl _ _)
          · (with_reducible refine FixB.of ?_ ?_; rfl; intro w' hS; clear hS; unfold Oper.wp; go_simp; first | done | exact Below.refl _ _)
          · (with_reducible refine FixB.of ?_ ?_; rfl; intro w' hS; clear hS; unfold Oper.wp; go_simp; first | done | exact Below.refl _ _)
          · (with_reducible refine FixB.of ?_ ?_; rfl; intro w' hS; clear hS; unfold Oper.wp; go_simp; first | done | exact Below.refl _ _)
          · (with_reducible refine FixB.of ?_ ?_; rfl; intro w' hS; clear hS; unfold Oper.wp; go_simp; first | done | exact Below.refl _ _)
          · exact FixB.off (by first | rfl | kernel_rfl | (simp [Region.wanted, yielded]; done)) rfl
          · exact FixB.off (by first | rfl | kernel_rfl | (simp [Region.wanted, yielded]; done)) rfl
          · exact FixB.off (by first | rfl | kernel_rfl | (simp [Region.wanted, yielded]; done)) rfl
          · exact FixB.off (by first | rfl | kernel_rfl | (simp [Region.wanted, yielded]; done)) rfl
          · exact FixB.off (by first | rfl | kernel_rfl | (simp [Region.wanted, yielded]; done)) rfl
          · exact FixB.off (by first | rfl | kernel_rfl | (simp [Region.wanted, yielded]; done)) rfl
          · (with_reducible refine FixB.of ?_ ?_; rfl; intro w' hS; clear hS; unfold Oper.wp; go_simp; first | done | exact Below.refl _ _)
        case hQ =>
          intro wc hS _
          have Hb3 := Lib.hid (Hbw.out.trans (hS.mono Hbw.out.size))
          clear hS
          go_wp2
          go_ret
          exact ⟨by rw [Hp.out] <;> rfl, Hb3.out⟩

set_option maxRecDepth 100000

theorem insM_cut {E : List M} {f : M} {a : Nat} (h : Cut E f a a) (hA : Asc E) (hf : f ∉ E) : insM f E = E.take a ++ [f] ++ E.drop a := by
  have hge : ∀ z ∈ E.drop a, lessM f z = true := fun z hz => by
    obtain ⟨j, hj, rfl⟩ := List.getElem_of_mem hz
    rw [List.length_drop] at hj
    rw [List.getElem_drop]
    have h2 := h.hi (a + j) (by omega) (by omega)
    rw [gm_eq (by omega)] at h2
    exact (lessM_tot (fun e => hf (by rw [e]; exact List.getElem_mem _))).resolve_right (by rw [h2]; simp)
  have hlt : ∀ z ∈ E.take a, lessM z f = true := fun z hz => by
    obtain ⟨j, hj, rfl⟩ := List.getElem_of_mem hz
    rw [List.length_take] at hj
    rw [List.getElem_take]
    have h2 := h.lo j (by omega)
    rwa [gm_eq (by omega)] at h2
  refine asc_ext (insM_asc hA) ?_ fun z => ?_
  · rw [List.append_assoc]
    refine List.pairwise_append.2 ⟨hA.sublist (List.take_sublist _ _), List.pairwise_cons.2 ⟨hge, hA.sublist (List.drop_sublist _ _)⟩, fun x hx y hy => ?_⟩
    rcases List.mem_cons.1 hy with rfl | hy
    · exact hlt x hx
    · exact lessM_trans (hlt x hx) (hge y hy)
  · rw [insM_mem]
    have : z ∈ E ↔ z ∈ E.take a ∨ z ∈ E.drop a := by rw [← List.mem_append, List.take_append_drop]
    rw [this, List.mem_append, List.mem_append, List.mem_singleton]
    constructor
    · rintro (h | h | h)
      · exact .inl (.inr h)
      · exact .inl (.inl h)
      · exact .inr h
    · rintro ((h | h) | h)
      · exact .inr (.inl h)
      · exact .inl h
      · exact .inr (.inr h)
theorem insM_in {E : List M} {f : M} (hA : Asc E) (hf : f ∈ E) : insM f E = E :=
  asc_ext (insM_asc hA) hA fun z => by rw [insM_mem]; exact ⟨fun h => h.elim (fun e => e ▸ hf) id, .inr⟩

/-- append of a list of maps to a row of one's own, as one operation -/
theorem wp_catM {w : World} {o : Oper} {a : Act} {K : Act → World → Prop} {Q : Exit → Act → World → Prop} (s x : Operand)
    (ho : o.op = .call { callee := .builtin .append, args := #[s, x], argTypes := #[24, 24] }) (B : Nat) (v : Value) (ms xs : List M) (hs : a.eval s = v) (hown : OwM 31 w B v ms)
    (ad : Addr) (n c : Nat) (hx : a.eval x = .slice (some ad) n c) (hy : RdM w w.heap.size (some ad) xs) (hn : xs.length = n)
    (hb : ms.length + n < 1073741824) (hB : B ≤ w.heap.size)
    (h : ∀ v' w', OwM 31 w' B v' (ms ++ xs) → w.grownBy w' v.ownBlock → K (a.put o.dst v') w') : o.wp Tryz.prog a w K Q := by
  obtain ⟨i, hi, hz0, hz1, hz2⟩ := info_parts infoM
  subst hn
  refine wp_append_own w s x 24 ho B 31 i (.agg (mc M0)) 6 48 Tryz.underlying24 hi hz0 hz1 hz2 rfl (by decide) v ms.length (mcs ms) hs hown ad xs.length c (mcs xs) hx (mcs_length _) ?_ mcs_one (by unfold maxLen; omega) (by omega) hB ?_
  · intro j u hj
    have hpos : 0 < xs.length := by
      rcases Nat.eq_zero_or_pos xs.length with h0 | h0
      · rw [List.eq_nil_of_length_eq_zero h0] at hj; simp [mcs] at hj
      · exact h0
    obtain ⟨b', off', e, _, hc⟩ := hy.2 hpos
    injection e with e
    subst e
    have := hc j u hj
    unfold Addr.add
    split
    · rename_i h0; subst h0; simpa using this
    · exact this
  · intro v' w' h1 h2 _
    refine h v' w' ?_ h2
    unfold OwM
    rw [mcs_app, List.length_append]
    exact h1

theorem RdM.take {w : World} {B : Nat} {A : Option Addr} {ms : List M} (h : RdM w B A ms) (a : Nat) : RdM w B A (ms.take a) := by
  refine ⟨mcs_length _, fun hpos => ?_⟩
  have hp : 0 < ms.length := by rw [List.length_take] at hpos; omega
  obtain ⟨b, off, e, hb, hc⟩ := h.2 hp
  refine ⟨b, off, e, hb, fun j u hj => hc j u ?_⟩
  have e2 : mcs ms = mcs (ms.take a) ++ mcs (ms.drop a) := by rw [← mcs_app, List.take_append_drop]
  rw [e2, List.getElem?_append_left ((List.getElem?_eq_some_iff.1 hj).1)]
  exact hj
theorem RdM.drop {w : World} {B b off : Nat} {ms : List M} (h : RdM w B (some ⟨b, off, none⟩) ms) {a : Nat} (ha : a ≤ ms.length) : RdM w B (some ⟨b, off + a * 6, none⟩) (ms.drop a) := by
  refine ⟨mcs_length _, fun hpos => ?_⟩
  have hp : 0 < ms.length := by rw [List.length_drop] at hpos; omega
  obtain ⟨b', off', e, hb, hc⟩ := h.2 hp
  injection e with e
  injection e with e1 e2 _
  subst e1 e2
  refine ⟨_, _, rfl, hb, fun j u hj => ?_⟩
  have e2 : mcs ms = mcs (ms.take a) ++ mcs (ms.drop a) := by rw [← mcs_app, List.take_append_drop]
  have hl : (mcs (ms.take a)).length = a * 6 := by rw [mcs_length, List.length_take]; congr 1; omega
  rw [Nat.add_assoc]
  refine hc (a * 6 + j) u ?_
  rw [e2, List.getElem?_append_right (by omega), hl, Nat.add_sub_cancel_left]
  exact hj

theorem OwM.capOf {e : TypeId} {w : World} {B : Nat} {v : Value} {ms : List M} (h : OwM e w B v ms) (hpos : 0 < ms.length) : ∃ g c, v = .slice (some ⟨g, 0, none⟩) ms.length c ∧ ms.length ≤ c := by
  rcases h.2 with ⟨_, h0⟩ | ⟨g, cap, cur, rfl, _, _, hc, _⟩
  · omega
  · exact ⟨g, cap, rfl, hc⟩

/-- what stands while a map is put into a list: the empty row (made, filled up), the row of the map -/
structure G9 where
  q0 : Nat
  v4 : Value
  q6 : Nat
  v7 : Value
structure S9 (w1 : World) (ms : List M) (f : M) (qb : Nat) (b0 b4 b6 b7 : Bool) (c : G9) (w : World) : Prop where
  bel : Below w1.heap.size w1 w
  s0 : b0 = true → b4 = false → OwM 31 w w1.heap.size (.slice (some ⟨c.q0, 0, none⟩) 0 0) []
  s4 : b4 = true → b7 = false → OwM 31 w w1.heap.size c.v4 ms
  s6 : b6 = true → b7 = false → Six w c.q6 f ∧ w1.heap.size ≤ c.q6 ∧ (b0 = true → b4 = false → c.q6 ≠ c.q0)
  s7 : b7 = true → OwM 31 w w1.heap.size c.v7 (ms ++ [f])
section
variable {w1 w w' : World} {ms : List M} {f : M} {qb : Nat} {b0 b4 b6 b7 : Bool} {c : G9}
theorem S9.start (w1 : World) (ms : List M) (f : M) (qb : Nat) (c : G9) : S9 w1 ms f qb false false false false c w1 :=
  ⟨Below.refl _ _, fun h => (by cases h), fun h => (by cases h), fun h => (by cases h), fun h => (by cases h)⟩
theorem S9.below (h : S9 w1 ms f qb b0 b4 b6 b7 c w) (hb : Below w.heap.size w w') : S9 w1 ms f qb b0 b4 b6 b7 c w' where
  bel := h.bel.trans (hb.mono h.bel.size)
  s0 := fun e1 e2 => (h.s0 e1 e2).below hb (Nat.le_refl _)
  s4 := fun e1 e2 => (h.s4 e1 e2).below hb (Nat.le_refl _)
  s6 := fun e1 e2 => ⟨(h.s6 e1 e2).1.below hb (h.s6 e1 e2).1.lt, (h.s6 e1 e2).2⟩
  s7 := fun e => (h.s7 e).below hb (Nat.le_refl _)
theorem S9.do0 (h : S9 w1 ms f qb false false b6 false c w) : S9 w1 ms f qb true false b6 false { c with q0 := w.heap.size } (w.alloc (.cells #[] 31)) :=
  have h' := h.below ((Below.refl w.heap.size w).alloc (Nat.le_refl _) (.cells #[] 31))
  { h' with s0 := fun _ _ => OwM.made h.bel.size, s4 := h'.s4, s6 := fun e1 e2 => ⟨(h'.s6 e1 e2).1, (h'.s6 e1 e2).2.1, fun _ _ => by have := (h.s6 e1 e2).1.lt; show c.q6 ≠ w.heap.size; omega⟩, s7 := h'.s7 }
theorem S9.do6 (h : S9 w1 ms f qb b0 b4 false false c w) : S9 w1 ms f qb b0 b4 true false { c with q6 := w.heap.size } (w.alloc (.cells (mc f) 31)) :=
  have h' := h.below ((Below.refl w.heap.size w).alloc (Nat.le_refl _) (.cells (mc f) 31))
  { h' with s0 := h'.s0, s4 := h'.s4, s6 := fun _ _ => ⟨Blk.six (Blk.new w _ _), h.bel.size, fun e1 e2 => (by have := ((h.s0 e1 e2).lt c.q0 rfl).2; show w.heap.size ≠ c.q0; omega)⟩, s7 := h'.s7 }
theorem S9.do4 (h : S9 w1 ms f qb true false b6 false c w) {v : Value} (ho : OwM 31 w' w1.heap.size v ms) (hg : w.grownBy w' (some c.q0)) : S9 w1 ms f qb true true b6 false { c with v4 := v } w' where
  bel := (h.s0 rfl rfl).bel h.bel hg (Nat.le_refl _) h.bel.size
  s0 := fun _ e => by cases e
  s4 := fun _ _ => ho
  s6 := fun e1 e2 => by
    obtain ⟨x1, x2, x3⟩ := h.s6 e1 e2
    exact ⟨x1.grown hg fun e => (by injection e with e; exact x3 rfl rfl e), x2, fun _ e => (by cases e)⟩
  s7 := fun e => by cases e
theorem S9.do7 (h : S9 w1 ms f qb true true true false c w) {v : Value} (ho : OwM 31 w' w1.heap.size v (ms ++ [f])) (hg : w.grownBy w' c.v4.ownBlock) : S9 w1 ms f qb true true true true { c with v7 := v } w' where
  bel := (h.s4 rfl rfl).bel h.bel hg (Nat.le_refl _) h.bel.size
  s0 := fun _ e => by cases e
  s4 := fun _ e => by cases e
  s6 := fun _ e => by cases e
  s7 := fun _ => ho
end

set_option maxRecDepth 100000
set_option linter.unusedSimpArgs false

theorem l01Put_any (A : Addr) (N c : Nat) (E : List M) (f : M) (w : World) (hx : RdM w w.heap.size (some A) E) (hn : E.length = N) (hNc : N ≤ c) (hN : N < 536870912) (hA : Asc E) (hE : ∀ g ∈ E, Valid g) (hf : Valid f) :
    Calls Tryz.prog 208 #[.slice (some A) N c, .agg (mc f)] w fun e w' => ∃ A' c', e = .returned (.slice (some A') (insM f E).length c') ∧ (insM f E).length ≤ c' ∧ RdM w' w'.heap.size (some A') (insM f E) ∧ (A' = A ∨ w.heap.size ≤ A'.block) ∧ Below w.heap.size w w' := by
  have Hx := Lib.hid hx
  have Hn := Lib.hid hn
  have HE := Lib.hid hE
  have HA := Lib.hid hA
  clear hx hn hE hA
  go_enter Tryz.func208, Tryz.ntmps208
  go_wp2_with fail
  obtain ⟨wb, hwb⟩ : ∃ wb, wb = w.alloc (.cells (mc f) 31) := ⟨_, rfl⟩
  have H6 : Hid (Six wb w.heap.size f) := by show Six _ _ _; rw [hwb]; exact Blk.six (Blk.new w _ _)
  have Hbb : Hid (Below w.heap.size w wb) := by show Below _ _ _; rw [hwb]; exact (Below.refl _ _).alloc (Nat.le_refl _) _
  have hsb : wb.heap.size = w.heap.size + 1 := by rw [hwb]; simp
  try rw [← hwb]
  clear hwb
  go_loopw [5, 6] (fun lo hi wr => ∃ a b : Nat, lo = .int .i64 a ∧ hi = .int .i64 b ∧ a ≤ b ∧ b ≤ N ∧ Below wb.heap.size wb wr ∧ Cut E f a b) (fun lo hi _ => (intOf hi).toNat - (intOf lo).toNat)
  case atStart => exact ⟨0, N, rfl, rfl, by omega, Nat.le_refl _, Below.refl _ _, fun j hj => by omega, fun j hj hl => by rw [Hn.out] at hl; omega⟩
  case round =>
    obtain ⟨a, b, rfl, rfl, hab, hbN, hb, hC⟩ := hrel
    have Hb := Lib.hid hb
    have HC := Lib.hid hC
    have hsz := hb.size
    clear hb hC
    by_cases hlt : a < b
    · have hi : (a : Int) < (b : Int) := by omega
      obtain ⟨k, hk⟩ : ∃ k : Nat, ((a : Int) + (b : Int)) / 2 = k := ⟨(a + b) / 2, by omega⟩
      have hak : a ≤ k := by omega
      have hkb : k < b := by omega
      go_wp2_with fail
      rw [hk]
      clear hk
      obtain ⟨b2, off2, e, hbb2, h6⟩ := RdM.at_ (Rd.below (Rd.below Hx.out Hbb.out) (Hb.out.mono Hbb.out.size)) (k := k) (by rw [Hn.out]; omega)
      injection e with e
      subst e
      obtain ⟨g, hg⟩ : ∃ g, g = gm E k := ⟨_, rfl⟩
      rw [← hg] at h6
      have hvg : Valid g := HE.out g (by rw [hg]; exact gm_mem (by rw [Hn.out]; omega))
      have H6k := Lib.hid h6
      have hkN : (k : Int) < (N : Int) := by omega
      have h6l : b2 < wr.heap.size := by omega
      have H6w := Lib.hid (H6.out.below Hb.out (by omega))
      have h6wl : w.heap.size < wr.heap.size := by omega
      have Hg := Lib.hid hg
      clear h6 hg
      refine wp_region_same [] rfl (by kernel_rfl) (by kernel_rfl) (by kernel_rfl) (fun w' => Below wr.heap.size wr w') _
        [.slice (some ⟨b2, off2, none⟩) N c, I k, .pointer (some ⟨b2, off2 + k * 6, none⟩), .agg (mc g), .agg (mc f), .bool (lessM g f)]
        (by simp only [putAll, List.setIfInBounds_toArray, List.set_cons_succ, List.set_cons_zero]; rfl) (Below.refl _ _).drew ?hop ?hQ
      case hop =>
        refine FixBL.toL (fun w' w'' hS hb => hS.trans (hb.mono hS.size)) _ _ ?_
        refine ⟨.inr ?_, .inr ?_, .inr ?_, .inr ?_, .inr ?_, .inr ?_, trivial⟩
        · (with_reducible refine FixB.of ?_ ?_; rfl; intro w' hS; have s0 := H6k.out.below hS h6l; have s1 := H6w.out.below hS h6wl; clear hS; unfold Oper.wp; go_simp; first | done | exact Below.refl _ _)
        · (with_reducible refine FixB.of ?_ ?_; rfl; intro w' hS; have s0 := H6k.out.below hS h6l; have s1 := H6w.out.below hS h6wl; clear hS; unfold Oper.wp; go_simp; first | done | exact Below.refl _ _)
        · (with_reducible refine FixB.of ?_ ?_; rfl; intro w' hS; have s0 := H6k.out.below hS h6l; have s1 := H6w.out.below hS h6wl; clear hS; unfold Oper.wp; go_simp; first | done | exact Below.refl _ _)
        · (with_reducible refine FixB.of ?_ ?_; rfl; intro w' hS; have s0 := H6k.out.below hS h6l; have s1 := H6w.out.below hS h6wl; clear hS; unfold Oper.wp; go_simp; first | done | exact Below.refl _ _)
        · (with_reducible refine FixB.of ?_ ?_; rfl; intro w' hS; have s0 := H6k.out.below hS h6l; have s1 := H6w.out.below hS h6wl; clear hS; unfold Oper.wp; go_simp; first | done | exact Below.refl _ _)
        · (with_reducible refine FixB.of ?_ ?_; rfl; intro w' hS; have s3 := Lib.hid hS; unfold Oper.wp; clear hS; go_simp; refine (l01Less_any g f _ hvg hf).mono ?_; rintro e w1 ⟨rfl, hb⟩; exact ⟨rfl, hb⟩)
      case hQ =>
        intro wc hS _
        have Hb3 := Lib.hid (Hb.out.trans (hS.mono hsz))
        clear hS H6k H6w
        cases hl : lessM g f
        · have HC2 := Lib.hid (HC.out.down HA.out (k := k) (by rw [← Hg.out]; exact hl))
          go_wp2
          go_roundw
          case rel => exact ⟨a, k, by go_num, by go_num, by omega, by omega, Hb3.out, HC2.out⟩
          case measure => simp [intOf]; omega
        · have HC2 := Lib.hid (HC.out.up HA.out (k := k) (by rw [Hn.out]; omega) (by rw [← Hg.out]; exact hl))
          go_wp2
          go_roundw
          case rel => exact ⟨k + 1, b, by go_num, by go_num, by omega, by omega, Hb3.out, HC2.out⟩
          case measure => simp [intOf]; omega
    · obtain rfl : a = b := by omega
      have hi : ¬ ((a : Int) < (a : Int)) := by omega
      have H6w := Lib.hid (H6.out.below Hb.out (by omega))
      have h6wl : w.heap.size < wr.heap.size := by omega
      have Hbw := Lib.hid (Hbb.out.trans (Hb.out.mono Hbb.out.size))
      have b0 := plOf_bd E f
      by_cases haN : a < N
      · obtain ⟨b2, off2, e, hbb2, h6⟩ := RdM.at_ (Rd.below Hx.out Hbw.out) (k := a) (by rw [Hn.out]; omega)
        injection e with e
        subst e
        obtain ⟨g, hg⟩ : ∃ g, g = gm E a := ⟨_, rfl⟩
        rw [← hg] at h6
        have H6k := Lib.hid h6
        have hkN : (a : Int) < (N : Int) := by omega
        have h6l : b2 < wr.heap.size := by omega
        have heq := eqMap_run g f
        obtain ⟨d, hd⟩ : ∃ d, d = decide (g = f) := ⟨_, rfl⟩
        rw [← hd] at heq
        have Hd := Lib.hid hd
        have Hg := Lib.hid hg
        clear h6 hg hd b0
        go_wp2_with fail
        refine wp_region_same [] rfl (by kernel_rfl) (by kernel_rfl) (by kernel_rfl) (fun w' => Below wr.heap.size wr w') _
          [I a, .slice (some ⟨b2, off2, none⟩) N c, I N, .bool true, .bool true, .slice (some ⟨b2, off2, none⟩) N c, I a, .pointer (some ⟨b2, off2 + a * 6, none⟩), .agg (mc g), .agg (mc f), .bool d, .bool d]
          (by simp only [putAll, List.setIfInBounds_toArray, List.set_cons_succ, List.set_cons_zero]; rfl) (Below.refl _ _).drew ?hop ?hQ
        case hop =>
          refine FixBL.toL (fun w' w'' hS hb => hS.trans (hb.mono hS.size)) _ _ ?_
          refine ⟨.inr ?_, .inr ?_, .inr ?_, .inr ?_, .inr ?_, .inr ?_, .inr ?_, .inr ?_, .inr ?_, .inr ?_, .inr ?_, .inr ?_, trivial⟩
          · (with_reducible refine FixB.of ?_ ?_; rfl; intro w' hS; have s0 := H6k.out.below hS h6l; have s1 := H6w.out.below hS h6wl; clear hS; unfold Oper.wp; go_simp; first | done | exact Below.refl _ _)
          · (with_reducible refine FixB.of ?_ ?_; rfl; intro w' hS; have s0 := H6k.out.below hS h6l; have s1 := H6w.out.below hS h6wl; clear hS; unfold Oper.wp; go_simp; first | done | exact Below.refl _ _)
          · (with_reducible refine FixB.of ?_ ?_; rfl; intro w' hS; have s0 := H6k.out.below hS h6l; have s1 := H6w.out.below hS h6wl; clear hS; unfold Oper.wp; go_simp; first | done | exact Below.refl _ _)
          · (with_reducible refine FixB.of ?_ ?_; rfl; intro w' hS; have s0 := H6k.out.below hS h6l; have s1 := H6w.out.below hS h6wl; clear hS; unfold Oper.wp; go_simp; first | done | exact Below.refl _ _)
          · (with_reducible refine FixB.of ?_ ?_; rfl; intro w' hS; have s0 := H6k.out.below hS h6l; have s1 := H6w.out.below hS h6wl; clear hS; unfold Oper.wp; go_simp; first | done | exact Below.refl _ _)
          · (refine FixB.on (by first | rfl | kernel_rfl | (simp [Region.wanted, yielded]; done)) ?_; intro w' hS; have s0 := H6k.out.below hS h6l; have s1 := H6w.out.below hS h6wl; clear hS; unfold Oper.wp; go_simp; first | done | exact Below.refl _ _)
          · (refine FixB.on (by first | rfl | kernel_rfl | (simp [Region.wanted, yielded]; done)) ?_; intro w' hS; have s0 := H6k.out.below hS h6l; have s1 := H6w.out.below hS h6wl; clear hS; unfold Oper.wp; go_simp; first | done | exact Below.refl _ _)
          · (refine FixB.on (by first | rfl | kernel_rfl | (simp [Region.wanted, yielded]; done)) ?_; intro w' hS; have s0 := H6k.out.below hS h6l; have s1 := H6w.out.below hS h6wl; clear hS; unfold Oper.wp; go_simp; first | done | exact Below.refl _ _)
          · (refine FixB.on (by first | rfl | kernel_rfl | (simp [Region.wanted, yielded]; done)) ?_; intro w' hS; have s0 := H6k.out.below hS h6l; have s1 := H6w.out.below hS h6wl; clear hS; unfold Oper.wp; go_simp; first | done | exact Below.refl _ _)
          · (refine FixB.on (by first | rfl | kernel_rfl | (simp [Region.wanted, yielded]; done)) ?_; intro w' hS; have s0 := H6k.out.below hS h6l; have s1 := H6w.out.below hS h6wl; clear hS; unfold Oper.wp; go_simp; first | done | exact Below.refl _ _)
          · (refine FixB.on (by first | rfl | kernel_rfl | (simp [Region.wanted, yielded]; done)) ?_; intro w' hS; have s0 := H6k.out.below hS h6l; have s1 := H6w.out.below hS h6wl; clear hS; unfold Oper.wp; go_simp; first | done | exact Below.refl _ _)
          · (with_reducible refine FixB.of ?_ ?_; rfl; intro w' hS; have s0 := H6k.out.below hS h6l; have s1 := H6w.out.below hS h6wl; clear hS; unfold Oper.wp; go_simp; first | done | exact Below.refl _ _)
        case hQ =>
          intro wc hS _
          have Hb3 := Lib.hid (Hbw.out.trans (hS.mono Hbw.out.size))
          clear H6k H6w heq
          have he := HC.out.eq HA.out (by rw [Hn.out]; exact haN)
          rw [← Hg.out] at he
          cases hdd : d
          · have hnf : f ∉ E := fun h => by have := Hd.out; rw [hdd, he.2 h] at this; simp at this
            have Hnf := Lib.hid hnf
            clear he hnf
            obtain ⟨A, hA'⟩ : ∃ A : Addr, A = ⟨b2, off2, none⟩ := ⟨_, rfl⟩
            rw [← hA'] at Hx ⊢
            clear hA'
            have hB9 : Below w.heap.size w wc := Hbw.out.trans (hS.mono Hbw.out.size)
            have hwl9 : w.heap.size < wc.heap.size := by have := hS.size; omega
            have hS9 : Below wr.heap.size wr wc := hS
            clear hS
            have Hbe := Lib.hid hB9
            have hwl : w.heap.size < wc.heap.size := hwl9
            have HRt : Hid (∀ w', Below wc.heap.size wc w' → RdM w' w'.heap.size (some A) (E.take a)) := fun w' hb' => RdM.take (Rd.more (Rd.below Hx.out (Hbe.out.trans (hb'.mono Hbe.out.size))) (Nat.le_trans Hbe.out.size hb'.size)) a
            have hEt : (E.take a).length = a := by rw [List.length_take, Hn.out]; omega
            have HEt := Lib.hid hEt
            have H6c := Lib.hid (H6.out.below (Hb.out.trans (hS9.mono hsz)) (by omega))
            have hac : a ≤ c := by omega
            have hacz : (a : Int) ≤ (c : Int) := by omega
            clear hS9 hB9 hwl9 hEt
            go_wp2_with fail
            refine wp_region_flags [] rfl (by kernel_rfl) (by kernel_rfl) [] (by kernel_rfl) _
              (fun s : G9 => [.slice (some ⟨s.q0, 0, none⟩) 0 0, .slice (some A) N c, I a, .slice (some A) a c, s.v4, .agg (mc f), .slice (some ⟨s.q6, 0, none⟩) 1 1, s.v7, s.v7])
              (by intro s; simp only [putAll, List.setIfInBounds_toArray, List.set_cons_succ, List.set_cons_zero]; rfl)
              [] rfl _
              (by intro s; simp only [setAll, List.setIfInBounds_toArray, List.set_cons_succ, List.set_cons_zero]; rfl) (by kernel_rfl)
              (fun d s w' => S9 wc (E.take a) f 0 (d 0) (d 4) (d 6) (d 7) s w')
              ⟨0, undef, 0, undef⟩ ((S9.start wc _ f 0 _).below (Below.refl _ _).drew) ?hop ?hQ
            case hop =>
              refine ⟨?_, ?_, ?_, ?_, ?_, ?_, ?_, ?_, ?_, trivial⟩
              · refine ⟨rfl, fun d s w' hd hdeps hcl hS => ?_⟩
                have d4 := hcl.down (k := 4) (j := 0) rfl (by kernel_rfl) hd
                have d7 := hcl.down (k := 7) (j := 4) rfl (by kernel_rfl) d4
                simp only [hd, d4, d7] at hS
                have hS2 := Lib.hid hS.do0
                clear hS hdeps hcl
                unfold Oper.wp
                go_simp
                refine FlagPost.own ({ s with q0 := w'.heap.size } : G9) 40 (.slice (some ⟨w'.heap.size, 0, none⟩) 0 0) rfl rfl rfl ?_ rfl
                show S9 _ _ _ _ true (d 4) (d 6) (d 7) _ _
                rw [d4, d7]
                exact hS2.out
              · refine ⟨rfl, Flag.pure (fun _ _ _ h => h) fun d c w' hd hdeps hcl hS => ?_⟩
                skip
                clear hS hdeps hcl hd
                unfold Oper.wp
                go_simp
                exact ⟨rfl, fun t ht => by injection ht with ht; subst ht; rfl, rfl⟩
              · refine ⟨rfl, Flag.pure (fun _ _ _ h => h) fun d c w' hd hdeps hcl hS => ?_⟩
                skip
                clear hS hdeps hcl hd
                unfold Oper.wp
                go_simp
                exact ⟨rfl, fun t ht => by injection ht with ht; subst ht; rfl, rfl⟩
              · refine ⟨rfl, Flag.pure (fun _ _ _ h => h) fun d c w' hd hdeps hcl hS => ?_⟩
                skip
                clear hS hdeps hcl hd
                unfold Oper.wp
                go_simp
                exact ⟨rfl, fun t ht => by injection ht with ht; subst ht; rfl, rfl⟩
              · refine ⟨rfl, fun d s w' hd hdeps hcl hS => ?_⟩
                have d0 := hdeps 0 (by kernel_rfl)
                have d7 := hcl.down (k := 7) (j := 4) rfl (by kernel_rfl) hd
                simp only [d0, hd, d7] at hS
                refine wp_catM (.tmp 40) (.tmp 43) rfl wc.heap.size (.slice (some ⟨s.q0, 0, none⟩) 0 0) [] (E.take a) rfl (hS.s0 rfl rfl) A a c rfl (HRt.out _ hS.bel) HEt.out (by simp; omega) hS.bel.size ?_
                intro v' w2 ho hg
                refine FlagPost.own ({ s with v4 := v' } : G9) 44 v' rfl rfl rfl ?_ rfl
                show S9 _ _ _ _ (d 0) true (d 6) (d 7) _ _
                rw [d0, d7]
                exact hS.do4 (by simpa using ho) hg
              · refine ⟨rfl, Flag.pure (fun _ _ _ h => h) fun d c w' hd hdeps hcl hS => ?_⟩
                have s0 := H6c.out.below hS.bel hwl
                clear hS hdeps hcl hd
                unfold Oper.wp
                go_simp
                exact ⟨rfl, fun t ht => by injection ht with ht; subst ht; rfl, rfl⟩
              · refine ⟨rfl, fun d s w' hd hdeps hcl hS => ?_⟩
                have d7 := hcl.down (k := 7) (j := 6) rfl (by kernel_rfl) hd
                simp only [hd, d7] at hS
                have hS2 := Lib.hid hS.do6
                clear hS hdeps hcl
                unfold Oper.wp
                go_simp
                refine FlagPost.own ({ s with q6 := w'.heap.size } : G9) 46 (.slice (some ⟨w'.heap.size, 0, none⟩) 1 1) rfl rfl rfl ?_ rfl
                show S9 _ _ _ _ (d 0) (d 4) true (d 7) _ _
                rw [d7]
                exact hS2.out
              · refine ⟨rfl, fun d s w' hd hdeps hcl hS => ?_⟩
                have d4 := hdeps 4 (by kernel_rfl)
                have d6 := hdeps 6 (by kernel_rfl)
                have d0 := hcl.up (k := 4) (j := 0) rfl (by kernel_rfl) d4
                simp only [d0, d4, d6, hd] at hS
                refine wp_pushM (.tmp 44) (.tmp 46) rfl wc.heap.size s.v4 (E.take a) rfl (hS.s4 rfl rfl) s.q6 1 f rfl (hS.s6 rfl rfl).1 (by rw [HEt.out]; omega) hS.bel.size ?_
                intro g' cap w2 hown hgr _ _
                refine FlagPost.two ({ s with v7 := .slice (some ⟨g', 0, none⟩) ((E.take a).length + 1) cap } : G9) 47 (.slice (some ⟨g', 0, none⟩) ((E.take a).length + 1) cap) 8 _ 8 rfl rfl rfl ?_ rfl rfl rfl (by decide) (hcl.down (k := 8) (j := 7) rfl (by kernel_rfl) hd)
                show S9 _ _ _ _ (d 0) (d 4) (d 6) true _ _
                rw [d0, d4, d6]
                exact hS.do7 hown hgr
              · refine ⟨rfl, Flag.pure (fun _ _ _ h => h) fun d c w' hd hdeps hcl hS => ?_⟩
                skip
                clear hS hdeps hcl hd
                unfold Oper.wp
                go_simp
                exact ⟨rfl, fun t ht => by injection ht with ht; subst ht; rfl, rfl⟩
            case hQ =>
              intro d s we hall hS
              have hS : S9 wc (E.take a) f 0 (d 0) (d 4) (d 6) (d 7) s we := hS
              rw [hall 0 (by decide), hall 4 (by decide), hall 6 (by decide), hall 7 (by decide)] at hS
              clear hall
              obtain ⟨q0, v4, q6, v7⟩ := s
              have h7 := hS.s7 rfl
              obtain ⟨g7, c7, e⟩ := h7.some_ (by simp)
              simp only at e h7
              subst e
              have hl7 : (E.take a ++ [f]).length = a + 1 := by rw [List.length_append, HEt.out]; rfl
              rw [hl7] at h7 ⊢
              have H7 := Lib.hid h7
              have HBw := Lib.hid (Hbe.out.trans (hS.bel.mono Hbe.out.size))
              have hwe := hS.bel.size
              clear h7 hS
              have hdl : (E.drop a).length = N - a := by rw [List.length_drop, Hn.out]
              have Hdl := Lib.hid hdl
              have HRd := Lib.hid (Rd.more (Rd.below Hx.out HBw.out) HBw.out.size)
              have Hins := Lib.hid (insM_cut HC.out HA.out Hnf.out)
              clear hdl hl7
              by_cases hca : c = a
              · have hNa : N = a := by omega
                have hdr : E.drop a = [] := List.drop_eq_nil_of_le (by rw [Hn.out]; omega)
                have HRd2 : Hid (RdM we we.heap.size (some A) (E.drop a)) := by
                  show RdM _ _ _ _
                  rw [hdr]; exact ⟨rfl, fun h => absurd h (by simp)⟩
                clear hdr
                subst hca
                subst hNa
                have Hd0 : Hid ((E.drop N).length = 0) := by show _ = _; rw [Hdl.out]; omega
                go_wp2_with (at_builtin; refine wpList_catM rfl (.tmp 48) (.tmp 51) rfl wc.heap.size (.slice (some ⟨g7, 0, none⟩) (N + 1) c7) (E.take N ++ [f]) (E.drop N) rfl H7.out (some A) 0 0 rfl (fun h => (by cases h)) HRd2.out Hd0.out (by rw [List.length_append, HEt.out]; simp; omega) hwe ?_; intro v' w4 ho' hgr)
                have hB4 := H7.out.bel HBw.out hgr (by omega) (by omega)
                rw [← Hins.out] at ho'
                obtain ⟨g8, c8, e8, hc8⟩ := ho'.capOf (by rw [Hins.out]; simp; omega)
                subst e8
                have Hc8 := Lib.hid hc8
                have Hg8 : w.heap.size ≤ g8 := Nat.le_trans Hbe.out.size (ho'.lt g8 rfl).1
                have HR8 := Lib.hid ho'.rd
                have HB4 := Lib.hid hB4
                clear ho' hgr hB4 hc8
                go_wp2
                go_ret
                exact ⟨⟨g8, 0, none⟩, c8, rfl, Hc8.out, HR8.out, .inr Hg8, HB4.out⟩
              · have hca2 : ¬ ((c : Int) = (a : Int)) := by omega
                obtain ⟨Ab, Ao, At⟩ := A
                have hRd2 : RdM we we.heap.size (some (Addr.add ⟨Ab, Ao, At⟩ (a * 6))) (E.drop a) := by
                  refine ⟨mcs_length _, fun hpos => ?_⟩
                  obtain ⟨b', off', e, hb', hc'⟩ := HRd.out.2 (by rw [List.length_drop] at hpos; omega)
                  injection e with e
                  injection e with e1 e2 e3
                  subst e1 e2 e3
                  have hd := RdM.drop HRd.out (a := a) (by rw [Hn.out]; omega)
                  have h2 := hd.2 hpos
                  unfold Addr.add
                  split
                  · rename_i h0; rw [h0, Nat.add_zero] at h2; exact h2
                  · exact h2
                have HRd2 := Lib.hid hRd2
                clear hRd2
                go_wp2_with (at_builtin; refine wpList_catM rfl (.tmp 48) (.tmp 51) rfl wc.heap.size (.slice (some ⟨g7, 0, none⟩) (a + 1) c7) (E.take a ++ [f]) (E.drop a) rfl H7.out (some (Addr.add ⟨Ab, Ao, At⟩ (a * 6))) (N - a) (c - a) rfl (fun h => (by cases h)) HRd2.out Hdl.out (by rw [List.length_append, HEt.out]; simp; omega) hwe ?_; intro v' w4 ho' hgr)
                have hB4 := H7.out.bel HBw.out hgr (by omega) (by omega)
                rw [← Hins.out] at ho'
                obtain ⟨g8, c8, e8, hc8⟩ := ho'.capOf (by rw [Hins.out]; simp; omega)
                subst e8
                have Hc8 := Lib.hid hc8
                have Hg8 : w.heap.size ≤ g8 := Nat.le_trans Hbe.out.size (ho'.lt g8 rfl).1
                have HR8 := Lib.hid ho'.rd
                have HB4 := Lib.hid hB4
                clear ho' hgr hB4 hc8
                go_wp2
                go_ret
                exact ⟨⟨g8, 0, none⟩, c8, rfl, Hc8.out, HR8.out, .inr Hg8, HB4.out⟩
          · have hgf : g = f := by have := Hd.out; rw [hdd] at this; exact of_decide_eq_true this.symm
            have hin := he.1 hgf
            clear hS
            have Hp : Hid (insM f E = E) := insM_in HA.out hin
            have Hr := Lib.hid (Rd.more (Rd.below Hx.out Hb3.out) Hb3.out.size)
            clear he hgf
            go_wp2
            go_ret
            refine ⟨⟨b2, off2, none⟩, c, ?_, ?_, ?_, .inl rfl, Hb3.out⟩
            · rw [Hp.out, Hn.out]; rfl
            · rw [Hp.out, Hn.out]; exact hNc
            · rw [Hp.out]; exact Hr.out
      · have hnf : f ∉ E := fun h => by have := (HC.out.in_ HA.out h).1; rw [Hn.out] at this; omega
        have Hnf := Lib.hid hnf
        have hkN : ¬ ((a : Int) < (N : Int)) := by omega
        clear b0
        go_wp2_with fail
        refine wp_region_same [] rfl (by kernel_rfl) (by kernel_rfl) (by kernel_rfl) (fun w' => Below wr.heap.size wr w') _
          [I a, .slice (some A) N c, I N, .bool false, .bool false, undef, undef, undef, undef, undef, undef, .bool false]
          (by simp only [putAll, List.setIfInBounds_toArray, List.set_cons_succ, List.set_cons_zero]; rfl) (Below.refl _ _).drew ?hop ?hQ
        case hop =>
          refine FixBL.toL (fun w' w'' hS hb => hS.trans (hb.mono hS.size)) _ _ ?_
          refine ⟨.inr ?_, .inr ?_, .inr ?_, .inr ?_, .inr ?_, .inr ?_, .inr ?_, .inr ?_, .inr ?_, .inr ?_, .inr ?_, .inr ?_, trivial⟩
          · (with_reducible refine FixB.of ?_ ?_; rfl; intro w' hS; clear hS; unfold Oper.wp; go_simp; first | done | exact Below.refl _ _)
          · (with_reducible refine FixB.of ?_ ?_; rfl; intro w' hS; clear hS; unfold Oper.wp; go_simp; first | done | exact Below.refl _ _)
          · (with_reducible refine FixB.of ?_ ?_; rfl; intro w' hS; clear hS; unfold Oper.wp; go_simp; first | done | exact Below.refl _ _)
          · (with_reducible refine FixB.of ?_ ?_; rfl; intro w' hS; clear hS; unfold Oper.wp; go_simp; first | done | exact Below.refl _ _)
          · (with_reducible refine FixB.of ?_ ?_; rfl; intro w' hS; clear hS; unfold Oper.wp; go_simp; first | done | exact Below.refl _ _)
          · exact FixB.off (by first | rfl | kernel_rfl | (simp [Region.wanted, yielded]; done)) rfl
          · exact FixB.off (by first | rfl | kernel_rfl | (simp [Region.wanted, yielded]; done)) rfl
          · exact FixB.off (by first | rfl | kernel_rfl | (simp [Region.wanted, yielded]; done)) rfl
          · exact FixB.off (by first | rfl | kernel_rfl | (simp [Region.wanted, yielded]; done)) rfl
          · exact FixB.off (by first | rfl | kernel_rfl | (simp [Region.wanted, yielded]; done)) rfl
          · exact FixB.off (by first | rfl | kernel_rfl | (simp [Region.wanted, yielded]; done)) rfl
          · (with_reducible refine FixB.of ?_ ?_; rfl; intro w' hS; clear hS; unfold Oper.wp; go_simp; first | done | exact Below.refl _ _)
        case hQ =>
          intro wc hS _
          have hB9 : Below w.heap.size w wc := Hbw.out.trans (hS.mono Hbw.out.size)
          have hwl9 : w.heap.size < wc.heap.size := by have := hS.size; omega
          have hS9 : Below wr.heap.size wr wc := hS
          clear hS
          have Hbe := Lib.hid hB9
          have hwl : w.heap.size < wc.heap.size := hwl9
          have HRt : Hid (∀ w', Below wc.heap.size wc w' → RdM w' w'.heap.size (some A) (E.take a)) := fun w' hb' => RdM.take (Rd.more (Rd.below Hx.out (Hbe.out.trans (hb'.mono Hbe.out.size))) (Nat.le_trans Hbe.out.size hb'.size)) a
          have hEt : (E.take a).length = a := by rw [List.length_take, Hn.out]; omega
          have HEt := Lib.hid hEt
          have H6c := Lib.hid (H6.out.below (Hb.out.trans (hS9.mono hsz)) (by omega))
          have hac : a ≤ c := by omega
          have hacz : (a : Int) ≤ (c : Int) := by omega
          clear hS9 hB9 hwl9 hEt
          go_wp2_with fail
          refine wp_region_flags [] rfl (by kernel_rfl) (by kernel_rfl) [] (by kernel_rfl) _
            (fun s : G9 => [.slice (some ⟨s.q0, 0, none⟩) 0 0, .slice (some A) N c, I a, .slice (some A) a c, s.v4, .agg (mc f), .slice (some ⟨s.q6, 0, none⟩) 1 1, s.v7, s.v7])
            (by intro s; simp only [putAll, List.setIfInBounds_toArray, List.set_cons_succ, List.set_cons_zero]; rfl)
            [] rfl _
            (by intro s; simp only [setAll, List.setIfInBounds_toArray, List.set_cons_succ, List.set_cons_zero]; rfl) (by kernel_rfl)
            (fun d s w' => S9 wc (E.take a) f 0 (d 0) (d 4) (d 6) (d 7) s w')
            ⟨0, undef, 0, undef⟩ ((S9.start wc _ f 0 _).below (Below.refl _ _).drew) ?hop ?hQ
          case hop =>
            refine ⟨?_, ?_, ?_, ?_, ?_, ?_, ?_, ?_, ?_, trivial⟩
            · refine ⟨rfl, fun d s w' hd hdeps hcl hS => ?_⟩
              have d4 := hcl.down (k := 4) (j := 0) rfl (by kernel_rfl) hd
              have d7 := hcl.down (k := 7) (j := 4) rfl (by kernel_rfl) d4
              simp only [hd, d4, d7] at hS
              have hS2 := Lib.hid hS.do0
              clear hS hdeps hcl
              unfold Oper.wp
              go_simp
              refine FlagPost.own ({ s with q0 := w'.heap.size } : G9) 40 (.slice (some ⟨w'.heap.size, 0, none⟩) 0 0) rfl rfl rfl ?_ rfl
              show S9 _ _ _ _ true (d 4) (d 6) (d 7) _ _
              rw [d4, d7]
              exact hS2.out
            · refine ⟨rfl, Flag.pure (fun _ _ _ h => h) fun d c w' hd hdeps hcl hS => ?_⟩
              skip
              clear hS hdeps hcl hd
              unfold Oper.wp
              go_simp
              exact ⟨rfl, fun t ht => by injection ht with ht; subst ht; rfl, rfl⟩
            · refine ⟨rfl, Flag.pure (fun _ _ _ h => h) fun d c w' hd hdeps hcl hS => ?_⟩
              skip
              clear hS hdeps hcl hd
              unfold Oper.wp
              go_simp
              exact ⟨rfl, fun t ht => by injection ht with ht; subst ht; rfl, rfl⟩
            · refine ⟨rfl, Flag.pure (fun _ _ _ h => h) fun d c w' hd hdeps hcl hS => ?_⟩
              skip
              clear hS hdeps hcl hd
              unfold Oper.wp
              go_simp
              exact ⟨rfl, fun t ht => by injection ht with ht; subst ht; rfl, rfl⟩
            · refine ⟨rfl, fun d s w' hd hdeps hcl hS => ?_⟩
              have d0 := hdeps 0 (by kernel_rfl)
              have d7 := hcl.down (k := 7) (j := 4) rfl (by kernel_rfl) hd
              simp only [d0, hd, d7] at hS
              refine wp_catM (.tmp 40) (.tmp 43) rfl wc.heap.size (.slice (some ⟨s.q0, 0, none⟩) 0 0) [] (E.take a) rfl (hS.s0 rfl rfl) A a c rfl (HRt.out _ hS.bel) HEt.out (by simp; omega) hS.bel.size ?_
              intro v' w2 ho hg
              refine FlagPost.own ({ s with v4 := v' } : G9) 44 v' rfl rfl rfl ?_ rfl
              show S9 _ _ _ _ (d 0) true (d 6) (d 7) _ _
              rw [d0, d7]
              exact hS.do4 (by simpa using ho) hg
            · refine ⟨rfl, Flag.pure (fun _ _ _ h => h) fun d c w' hd hdeps hcl hS => ?_⟩
              have s0 := H6c.out.below hS.bel hwl
              clear hS hdeps hcl hd
              unfold Oper.wp
              go_simp
              exact ⟨rfl, fun t ht => by injection ht with ht; subst ht; rfl, rfl⟩
            · refine ⟨rfl, fun d s w' hd hdeps hcl hS => ?_⟩
              have d7 := hcl.down (k := 7) (j := 6) rfl (by kernel_rfl) hd
              simp only [hd, d7] at hS
              have hS2 := Lib.hid hS.do6
              clear hS hdeps hcl
              unfold Oper.wp
              go_simp
              refine FlagPost.own ({ s with q6 := w'.heap.size } : G9) 46 (.slice (some ⟨w'.heap.size, 0, none⟩) 1 1) rfl rfl rfl ?_ rfl
              show S9 _ _ _ _ (d 0) (d 4) true (d 7) _ _
              rw [d7]
              exact hS2.out
            · refine ⟨rfl, fun d s w' hd hdeps hcl hS => ?_⟩
              have d4 := hdeps 4 (by kernel_rfl)
              have d6 := hdeps 6 (by kernel_rfl)
              have d0 := hcl.up (k := 4) (j := 0) rfl (by kernel_rfl) d4
              simp only [d0, d4, d6, hd] at hS
              refine wp_pushM (.tmp 44) (.tmp 46) rfl wc.heap.size s.v4 (E.take a) rfl (hS.s4 rfl rfl) s.q6 1 f rfl (hS.s6 rfl rfl).1 (by rw [HEt.out]; omega) hS.bel.size ?_
              intro g' cap w2 hown hgr _ _
              refine FlagPost.two ({ s with v7 := .slice (some ⟨g', 0, none⟩) ((E.take a).length + 1) cap } : G9) 47 (.slice (some ⟨g', 0, none⟩) ((E.take a).length + 1) cap) 8 _ 8 rfl rfl rfl ?_ rfl rfl rfl (by decide) (hcl.down (k := 8) (j := 7) rfl (by kernel_rfl) hd)
              show S9 _ _ _ _ (d 0) (d 4) (d 6) true _ _
              rw [d0, d4, d6]
              exact hS.do7 hown hgr
            · refine ⟨rfl, Flag.pure (fun _ _ _ h => h) fun d c w' hd hdeps hcl hS => ?_⟩
              skip
              clear hS hdeps hcl hd
              unfold Oper.wp
              go_simp
              exact ⟨rfl, fun t ht => by injection ht with ht; subst ht; rfl, rfl⟩
          case hQ =>
            intro d s we hall hS
            have hS : S9 wc (E.take a) f 0 (d 0) (d 4) (d 6) (d 7) s we := hS
            rw [hall 0 (by decide), hall 4 (by decide), hall 6 (by decide), hall 7 (by decide)] at hS
            clear hall
            obtain ⟨q0, v4, q6, v7⟩ := s
            have h7 := hS.s7 rfl
            obtain ⟨g7, c7, e⟩ := h7.some_ (by simp)
            simp only at e h7
            subst e
            have hl7 : (E.take a ++ [f]).length = a + 1 := by rw [List.length_append, HEt.out]; rfl
            rw [hl7] at h7 ⊢
            have H7 := Lib.hid h7
            have HBw := Lib.hid (Hbe.out.trans (hS.bel.mono Hbe.out.size))
            have hwe := hS.bel.size
            clear h7 hS
            have hdl : (E.drop a).length = N - a := by rw [List.length_drop, Hn.out]
            have Hdl := Lib.hid hdl
            have HRd := Lib.hid (Rd.more (Rd.below Hx.out HBw.out) HBw.out.size)
            have Hins := Lib.hid (insM_cut HC.out HA.out Hnf.out)
            clear hdl hl7
            by_cases hca : c = a
            · have hNa : N = a := by omega
              have hdr : E.drop a = [] := List.drop_eq_nil_of_le (by rw [Hn.out]; omega)
              have HRd2 : Hid (RdM we we.heap.size (some A) (E.drop a)) := by
                show RdM _ _ _ _
                rw [hdr]; exact ⟨rfl, fun h => absurd h (by simp)⟩
              clear hdr
              subst hca
              subst hNa
              have Hd0 : Hid ((E.drop N).length = 0) := by show _ = _; rw [Hdl.out]; omega
              go_wp2_with (at_builtin; refine wpList_catM rfl (.tmp 48) (.tmp 51) rfl wc.heap.size (.slice (some ⟨g7, 0, none⟩) (N + 1) c7) (E.take N ++ [f]) (E.drop N) rfl H7.out (some A) 0 0 rfl (fun h => (by cases h)) HRd2.out Hd0.out (by rw [List.length_append, HEt.out]; simp; omega) hwe ?_; intro v' w4 ho' hgr)
              have hB4 := H7.out.bel HBw.out hgr (by omega) (by omega)
              rw [← Hins.out] at ho'
              obtain ⟨g8, c8, e8, hc8⟩ := ho'.capOf (by rw [Hins.out]; simp; omega)
              subst e8
              have Hc8 := Lib.hid hc8
              have Hg8 : w.heap.size ≤ g8 := Nat.le_trans Hbe.out.size (ho'.lt g8 rfl).1
              have HR8 := Lib.hid ho'.rd
              have HB4 := Lib.hid hB4
              clear ho' hgr hB4 hc8
              go_wp2
              go_ret
              exact ⟨⟨g8, 0, none⟩, c8, rfl, Hc8.out, HR8.out, .inr Hg8, HB4.out⟩
            · have hca2 : ¬ ((c : Int) = (a : Int)) := by omega
              obtain ⟨Ab, Ao, At⟩ := A
              have hRd2 : RdM we we.heap.size (some (Addr.add ⟨Ab, Ao, At⟩ (a * 6))) (E.drop a) := by
                refine ⟨mcs_length _, fun hpos => ?_⟩
                obtain ⟨b', off', e, hb', hc'⟩ := HRd.out.2 (by rw [List.length_drop] at hpos; omega)
                injection e with e
                injection e with e1 e2 e3
                subst e1 e2 e3
                have hd := RdM.drop HRd.out (a := a) (by rw [Hn.out]; omega)
                have h2 := hd.2 hpos
                unfold Addr.add
                split
                · rename_i h0; rw [h0, Nat.add_zero] at h2; exact h2
                · exact h2
              have HRd2 := Lib.hid hRd2
              clear hRd2
              go_wp2_with (at_builtin; refine wpList_catM rfl (.tmp 48) (.tmp 51) rfl wc.heap.size (.slice (some ⟨g7, 0, none⟩) (a + 1) c7) (E.take a ++ [f]) (E.drop a) rfl H7.out (some (Addr.add ⟨Ab, Ao, At⟩ (a * 6))) (N - a) (c - a) rfl (fun h => (by cases h)) HRd2.out Hdl.out (by rw [List.length_append, HEt.out]; simp; omega) hwe ?_; intro v' w4 ho' hgr)
              have hB4 := H7.out.bel HBw.out hgr (by omega) (by omega)
              rw [← Hins.out] at ho'
              obtain ⟨g8, c8, e8, hc8⟩ := ho'.capOf (by rw [Hins.out]; simp; omega)
              subst e8
              have Hc8 := Lib.hid hc8
              have Hg8 : w.heap.size ≤ g8 := Nat.le_trans Hbe.out.size (ho'.lt g8 rfl).1
              have HR8 := Lib.hid ho'.rd
              have HB4 := Lib.hid hB4
              clear ho' hgr hB4 hc8
              go_wp2
              go_ret
              exact ⟨⟨g8, 0, none⟩, c8, rfl, Hc8.out, HR8.out, .inr Hg8, HB4.out⟩

set_option maxRecDepth 100000

theorem cI_app (xs ys : List Int) : cI (xs ++ ys) = cI xs ++ cI ys := by simp [cI]
theorem cI_one {zs : List Int} : ∀ u ∈ cI zs, u.oneCell' = true := by
  intro u hu
  obtain ⟨z, _, rfl⟩ := List.mem_map.1 hu
  rfl
/-- append of all numbers of a slice -/
theorem wpList_catI {w : World} {ops : Array Oper} {rest : List Oper} {o : Oper} {a : Act} {Q : Exit → Act → World → Prop} (hgd : o.guard = none) (s x : Operand)
    (ho : o.op = .call { callee := .builtin .append, args := #[s, x], argTypes := #[39, 39] }) (B : Nat) (v : Value) (ms xs : List Int) (hs : a.eval s = v) (hown : OwI 2 w B v ms)
    (A : Option Addr) (n c : Nat) (hx : a.eval x = .slice A n c) (hA : A = none → n = 0 ∧ c = 0) (hy : RdI w w.heap.size A xs) (hn : xs.length = n)
    (hb : ms.length + n < 1073741824) (hB : B ≤ w.heap.size)
    (h : ∀ v' w', OwI 2 w' B v' (ms ++ xs) → w.grownBy w' v.ownBlock → wpList Tryz.prog ops Q rest (a.put o.dst v') w') : wpList Tryz.prog ops Q (o :: rest) a w := by
  obtain ⟨i, hi, hz0, hz1, hz2⟩ := info_parts infoI
  subst hn
  cases A with
  | none =>
    obtain ⟨h0, rfl⟩ := hA rfl
    obtain rfl : xs = [] := List.eq_nil_of_length_eq_zero h0
    refine wpList_append_own_none hgd s x 39 ho B 2 i 1 Tryz.underlying39 hi v ms.length (cI ms) hs hown hx ?_
    exact h v w (by rw [List.append_nil]; exact hown) (World.grownBy.refl w _)
  | some ad =>
    refine wpList_append_own w hgd s x 39 ho B 2 i (.int .i64 0) 1 8 Tryz.underlying39 hi hz0 hz1 hz2 rfl (by decide) v ms.length (cI ms) hs hown ad xs.length c (cI xs) hx (by rw [cI_length]; omega) ?_ cI_one (by unfold maxLen; omega) (by omega) hB ?_
    · intro j u hj
      have hpos : 0 < xs.length := by
        rcases Nat.eq_zero_or_pos xs.length with h0 | h0
        · rw [List.eq_nil_of_length_eq_zero h0] at hj; simp [cI] at hj
        · exact h0
      obtain ⟨b', off', e, _, hc⟩ := hy.2 hpos
      injection e with e
      subst e
      have := hc j u hj
      unfold Addr.add
      split
      · rename_i h0; subst h0; simpa using this
      · exact this
    · intro v' w' h1 h2 _
      refine h v' w' ?_ h2
      unfold OwI
      rw [cI_app, List.length_append]
      exact h1
theorem OwI.nilA {e : TypeId} {w : World} {B n c : Nat} {A : Option Addr} {zs : List Int} (h : OwI e w B (.slice A n c) zs) : A = none → n = 0 ∧ c = 0 := by
  rintro rfl
  rcases h.2 with ⟨he, _⟩ | ⟨g, cap, cur, he, _⟩
  · injection he with _ h1 h2
    exact ⟨h1, h2⟩
  · injection he with h1 _ _
    cases h1

theorem l01Own_any (A : Option Addr) (n c : Nat) (zs : List Int) (w : World) (hA : A = none → n = 0 ∧ c = 0) (hy : RdI w w.heap.size A zs) (hn : zs.length = n) (hb : n < 1073741824) :
    Calls Tryz.prog 223 #[.slice A n c] w fun e w' => ∃ v, e = .returned v ∧ OwI 2 w' w.heap.size v zs ∧ Below w.heap.size w w' := by
  have Hy := Lib.hid hy
  have Hn := Lib.hid hn
  have HA := Lib.hid hA
  clear hy hn hA
  go_enter Tryz.func223, Tryz.ntmps223
  go_wp2_with (at_builtin; refine wpList_catI rfl (.tmp 3) (.tmp 4) rfl w.heap.size _ [] zs rfl (OwI.made' rfl (Nat.le_refl _)) A n c rfl HA.out (Rd.more (Rd.alloc Hy.out (Nat.le_refl _) _) (by simp)) Hn.out (by simp; omega) (by simp) ?_; intro v' w1 hown' hgr)
  have hbel : Below w.heap.size w w1 := (OwI.made' rfl (Nat.le_refl _) : OwI 2 (w.alloc (.cells #[] 2)) w.heap.size _ []).bel (by (repeat (first | with_reducible assumption | with_reducible exact Below.refl _ _ | with_reducible refine Below.setCell ?_ (by first | omega | (simp <;> omega)) _ | with_reducible refine Below.alloc ?_ (by first | omega | (simp <;> omega)) _ | with_reducible refine Below.drew ?_ | with_reducible refine Below.drewN ?_ _))) hgr (Nat.le_refl _) (by simp)
  have ho2 := hown'
  rw [List.nil_append] at ho2
  go_ret
  exact ⟨v', rfl, ho2, hbel⟩

/-- append of one slice to a row of slices of the call's own, in a list of operations -/
theorem wpList_pushV {w : World} {ops : Array Oper} {rest : List Oper} {o : Oper} {a : Act} {Q : Exit → Act → World → Prop} (hgd : o.guard = none) (s x : Operand)
    (ho : o.op = .call { callee := .builtin .append, args := #[s, x], argTypes := #[93, 93] }) (B : Nat) (v : Value) (vs : List Value) (hs : a.eval s = v) (hown : OwV 39 w B v vs) (n : Nat) (hlen : vs.length = n)
    (g : Nat) (c : Nat) (u : Value) (hu : u.oneCell' = true) (hx : a.eval x = .slice (some ⟨g, 0, none⟩) 1 c) (hg : w.cell? ⟨g, 0, none⟩ = some u)
    (hn : n < 1073741824) (hB : B ≤ w.heap.size) (H : Nat) (hH : w.heap.size = H)
    (h : ∀ g' cap w', OwV 39 w' B (.slice (some ⟨g', 0, none⟩) (n + 1) cap) (vs ++ [u]) → w.grownBy w' v.ownBlock → (v.ownBlock = some g' ∨ g' = H) → g' < w'.heap.size →
      wpList Tryz.prog ops Q rest (a.put o.dst (.slice (some ⟨g', 0, none⟩) (n + 1) cap)) w') : wpList Tryz.prog ops Q (o :: rest) a w := by
  subst hlen
  obtain ⟨i, hi, hz0, hz1, hz2⟩ := info_parts infoV
  refine wpList_append_lies w hgd s x 93 ho B 39 i (.slice none 0 0) 1 24 Tryz.underlying93 hi hz0 hz1 hz2 rfl (by decide) v vs.length vs hs hown ⟨g, 0, none⟩ 1 c [u] hx rfl ?_ ?_ (by decide) (by unfold maxLen; omega) (by omega) hB H hH ?_
  · intro j u' hj
    match j, hj with
    | 0, hj => simp at hj; subst hj; simpa [Addr.add] using hg
  · intro u' hu'; simp at hu'; subst hu'; exact hu
  · intro g' cap w' h1 h2 h3 h4
    exact h g' cap w' (by unfold OwV; simpa using h1) h2 h3 h4

/-! ### what stands while the reference searches -/
theorem Rd.grownAt {k n : Nat} {w w' : World} {A : Addr} {cs : List Value} {row : Option Nat} (h : Rd k w w.heap.size (some A) n cs) (hg : w.grownBy w' row) (hr : row ≠ some A.block) : Rd k w' w'.heap.size (some A) n cs := by
  refine ⟨h.1, fun hn => ?_⟩
  obtain ⟨b, off, e, hb, hc⟩ := h.2 hn
  injection e with e
  subst e
  exact ⟨b, off, rfl, Nat.lt_of_lt_of_le hb hg.size, fun j u hu => (World.cell?_of_block (w := w) (a := ⟨b, off + j, none⟩) (hg.block b hb fun e => hr e.symm)).trans (hc j u hu)⟩
structure CS (w0 : World) (L : List M) (us : List (List Int)) (vs : List Value) (K : List M) (vO vW : Value) (A : Addr) (w : World) : Prop where
  bel : Below w0.heap.size w0 w
  o : OwM 31 w w0.heap.size vO L
  wd : OwV 39 w w0.heap.size vW vs
  len : vs.length = us.length
  ws : ∀ j, j < us.length → OwI 2 w w0.heap.size (gv vs j) (us.getD j [])
  k : RdM w w.heap.size (some A) K
  kl : A.block < w.heap.size
  s1 : ∀ g, vO.ownBlock = some g → vW.ownBlock ≠ some g ∧ g ≠ A.block
  s2 : ∀ g, vW.ownBlock = some g → g ≠ A.block
  s3 : ∀ j, j < us.length → ∀ g, (gv vs j).ownBlock = some g → vO.ownBlock ≠ some g ∧ vW.ownBlock ≠ some g
section
variable {w0 w w' : World} {L : List M} {us : List (List Int)} {vs : List Value} {K : List M} {vO vW : Value} {A : Addr}
theorem CS.below (h : CS w0 L us vs K vO vW A w) (hb : Below w.heap.size w w') : CS w0 L us vs K vO vW A w' where
  bel := h.bel.trans (hb.mono h.bel.size)
  o := h.o.below hb (Nat.le_refl _)
  wd := h.wd.below hb (Nat.le_refl _)
  len := h.len
  ws := fun j hj => (h.ws j hj).below hb (Nat.le_refl _)
  k := Rd.more (Rd.below h.k hb) hb.size
  kl := Nat.lt_of_lt_of_le h.kl hb.size
  s1 := h.s1
  s2 := h.s2
  s3 := h.s3
theorem CS.pushO (h : CS w0 L us vs K vO vW A w) {g' n c : Nat} {L' : List M} (ho : OwM 31 w' w0.heap.size (.slice (some ⟨g', 0, none⟩) n c) L') (hg : w.grownBy w' vO.ownBlock) (hor : vO.ownBlock = some g' ∨ w.heap.size ≤ g') :
    CS w0 L' us vs K (.slice (some ⟨g', 0, none⟩) n c) vW A w' where
  bel := h.o.bel h.bel hg (Nat.le_refl _) h.bel.size
  o := ho
  wd := h.wd.grown hg fun g hv e => (h.s1 g e).1 hv
  len := h.len
  ws := fun j hj => (h.ws j hj).grown hg fun g hv e => (h.s3 j hj g hv).1 e
  k := Rd.grownAt h.k hg fun e => (h.s1 _ e).2 rfl
  kl := Nat.lt_of_lt_of_le h.kl hg.size
  s1 := fun g hv => by
    obtain rfl := own_eq hv
    rcases hor with h1 | h1
    · exact h.s1 _ h1
    · exact ⟨fun e => by have := (h.wd.lt _ e).2; omega, by have := h.kl; omega⟩
  s2 := h.s2
  s3 := fun j hj g hv => ⟨fun e => by
    obtain rfl := own_eq e
    rcases hor with h1 | h1
    · exact (h.s3 j hj _ hv).1 h1
    · have := ((h.ws j hj).lt _ hv).2; omega, (h.s3 j hj g hv).2⟩
theorem CS.pushW (h : CS w0 L us vs K vO vW A w) {g' n c : Nat} {u : Value} {z : List Int} (ho : OwV 39 w' w0.heap.size (.slice (some ⟨g', 0, none⟩) n c) (vs ++ [u])) (hg : w.grownBy w' vW.ownBlock) (hor : vW.ownBlock = some g' ∨ w.heap.size ≤ g')
    (hu : OwI 2 w w0.heap.size u z) (hu1 : ∀ g, u.ownBlock = some g → vO.ownBlock ≠ some g ∧ vW.ownBlock ≠ some g) :
    CS w0 L (us ++ [z]) (vs ++ [u]) K vO (.slice (some ⟨g', 0, none⟩) n c) A w' where
  bel := h.wd.bel h.bel hg (Nat.le_refl _) h.bel.size
  o := h.o.grown hg fun g hv e => (h.s1 g hv).1 e
  wd := ho
  len := by simp [h.len]
  ws := fun j hj => by
    by_cases e : j = us.length
    · subst e
      rw [gv_last h.len]
      simp only [List.getD_eq_getElem?_getD, List.getElem?_append_right (Nat.le_refl _), Nat.sub_self, List.getElem?_cons_zero, Option.getD_some]
      exact hu.grown hg fun g hv e => (hu1 g hv).2 e
    · have hj' : j < us.length := by simp at hj; omega
      rw [gv_app (by rw [h.len]; exact hj')]
      simp only [List.getD_eq_getElem?_getD, List.getElem?_append_left hj']
      rw [← List.getD_eq_getElem?_getD]
      exact (h.ws j hj').grown hg fun g hv e => (h.s3 j hj' g hv).2 e
  k := Rd.grownAt h.k hg fun e => h.s2 _ e rfl
  kl := Nat.lt_of_lt_of_le h.kl hg.size
  s1 := fun g hv => ⟨fun e => by
    obtain rfl := own_eq e
    rcases hor with h1 | h1
    · exact (h.s1 _ hv).1 h1
    · have := (h.o.lt _ hv).2; omega, (h.s1 g hv).2⟩
  s2 := fun g hv => by
    obtain rfl := own_eq hv
    rcases hor with h1 | h1
    · exact h.s2 _ h1
    · have := h.kl; omega
  s3 := fun j hj g hv => by
    by_cases e : j = us.length
    · subst e
      rw [gv_last h.len] at hv
      refine ⟨(hu1 g hv).1, fun e => ?_⟩
      obtain rfl := own_eq e
      rcases hor with h1 | h1
      · exact (hu1 _ hv).2 h1
      · have := (hu.lt _ hv).2; omega
    · have hj' : j < us.length := by simp at hj; omega
      rw [gv_app (by rw [h.len]; exact hj')] at hv
      refine ⟨(h.s3 j hj' g hv).1, fun e => ?_⟩
      obtain rfl := own_eq e
      rcases hor with h1 | h1
      · exact (h.s3 j hj' _ hv).2 h1
      · have := ((h.ws j hj').lt _ hv).2; omega
theorem CS.putK (h : CS w0 L us vs K vO vW A w) (hb : Below w.heap.size w w') {A' : Addr} {K' : List M} (hA : A' = A ∨ w.heap.size ≤ A'.block) (hk : RdM w' w'.heap.size (some A') K') (hp : 0 < K'.length) : CS w0 L us vs K' vO vW A' w' :=
  have h' := h.below hb
  { bel := h'.bel, o := h'.o, wd := h'.wd, len := h'.len, ws := h'.ws, k := hk
    kl := by
      obtain ⟨b, off, e, hlt, _⟩ := hk.2 hp
      injection e with e
      subst e
      exact hlt
    s1 := fun g hv => ⟨(h.s1 g hv).1, by
      rcases hA with rfl | hA
      · exact (h.s1 g hv).2
      · have := (h.o.lt g hv).2; omega⟩
    s2 := fun g hv => by
      rcases hA with rfl | hA
      · exact h.s2 g hv
      · have := (h.wd.lt g hv).2; omega
    s3 := h.s3 }
end
end Go.Proofs.YtkbfocoaobiijaaGreat
