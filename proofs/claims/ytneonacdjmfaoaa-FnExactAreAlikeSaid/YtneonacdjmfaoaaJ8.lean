/- Contracts of AreAlike on both sides; the lists are as each theorem states. -/
import Derived.Test.YtneonacdjmfaoaaJ6
namespace Go.Proofs.Ytneonacdjmfaoaa
open Go.RowKit
set_option maxRecDepth 100000
set_option linter.unusedSimpArgs false
set_option linter.unusedVariables false

def aaR (ms : List M) (f g : M) (kind : Int) : Bool := decide (cnC ms [f, g] kind = 0) && sameK (elR ms [f, g]) kind (ix (elR ms [f, g]) f) (ix (elR ms [f, g]) g)
theorem aaR_bad {ms : List M} {f g : M} {kind : Int} (h : cnC ms [f, g] kind ≠ 0) : aaR ms f g kind = false := by unfold aaR; rw [decide_eq_false h]; rfl
abbrev two (f g : M) : Array Value := #[I f.p, I f.t0, I f.t1, I f.t2, I f.t3, I f.t4, I g.p, I g.t0, I g.t1, I g.t2, I g.t3, I g.t4]

set_option maxHeartbeats 2000000 in
theorem SpecAA_any (A : Option Addr) (n c : Nat) (ms : List M) (f g : M) (kind : Int) (w : World) (hx : RdM w w.heap.size A ms) (hn : ms.length = n) (hb : n < 1073741824) :
    Calls Try.prog 19 #[.slice A n c, .agg (mc f), .agg (mc g), I kind] w fun e w' => e = .returned (.tuple #[.bool (aaR ms f g kind), I (cnC ms [f, g] kind)]) ∧ Below w.heap.size w w' := by
  obtain ⟨wb, hwb⟩ : ∃ wb, wb = ((w.alloc (.cells (mc f) 39)).alloc (.cells (mc g) 39)).alloc (.cells (two f g) 39) := ⟨_, rfl⟩
  have hbb : Below w.heap.size w wb := by rw [hwb]; exact (((Below.refl _ _).alloc (Nat.le_refl _) _).alloc (by simp) _).alloc (by simp; omega) _
  have h7 : RdM wb wb.heap.size (some ⟨w.heap.size + 2, 0, none⟩) [f, g] := by rw [hwb]; exact rd_two (Blk.new' _ _ _ (by simp))
  have hF : Six wb w.heap.size f := by rw [hwb]; exact Blk.six (((Blk.new w _ _).alloc _).alloc _)
  have hG2 : Six wb (w.heap.size + 1) g := by rw [hwb]; exact Blk.six ((Blk.new' _ _ _ (by simp)).alloc _)
  have hsz : wb.heap.size = w.heap.size + 3 := by rw [hwb]; simp
  have Hx := Lib.hid (Rd.more (Rd.below hx hbb) hbb.size)
  have Hn := Lib.hid hn
  have H7 := Lib.hid h7
  have HF := Lib.hid hF
  have HG2 := Lib.hid hG2
  have Hbb := Lib.hid hbb
  have Hwb := Lib.hid hwb
  clear hx hn h7 hbb hwb hF hG2
  by_cases hc : codeL ms [f, g] = 0
  · by_cases hk : inR kind 0 3 = true
    · have hC := cnC_mon hc hk
      by_cases hm : monC ms [f, g] = 0
      · obtain ⟨E, ps, hE, hin⟩ := monC_el hm
        have hfE := hin f (by simp)
        have hgE := hin g (by simp)
        have hR : aaR ms f g kind = sameK E kind (ix E f) (ix E g) := by unfold aaR; rw [hC, decide_eq_true hm, Bool.true_and, hE.r]
        have hG : gR ms [f, g] = E := by unfold gR; rw [if_pos hm, hE.r]
        have hNN : gN ms [f, g] = [(ix E f : Int), (ix E g : Int)] := by unfold gN; rw [if_pos hm, hE.r]; rfl
        have hlen := hE.len
        have hn6 := hE.n6
        rw [hm] at hC
        obtain ⟨x, hxx⟩ : ∃ x, x = ix E f := ⟨_, rfl⟩
        obtain ⟨y, hyy⟩ : ∃ y, y = ix E g := ⟨_, rfl⟩
        have hxl : x < E.length := by rw [hxx]; exact ix_lt hfE
        have hyl : y < E.length := by rw [hyy]; exact ix_lt hgE
        rw [← hxx, ← hyy] at hNN hR
        obtain ⟨t, ht⟩ : ∃ t, t = aaR ms f g kind := ⟨_, rfl⟩
        have Ht : Hid (sameK E kind x y = t) := by show _ = _; rw [ht, hR]
        obtain ⟨N, hN⟩ : ∃ N, E.length = N := ⟨_, rfl⟩
        rw [hN] at hlen hxl hyl
        have hxz : (x : Int) < (N : Int) := by omega
        have hyz : (y : Int) < (N : Int) := by omega
        rw [← ht]
        have HC := Lib.hid hC
        have HN := Lib.hid hN
        have HE := Lib.hid hE
        have Hm := Lib.hid hm
        have Hc := Lib.hid hc
        have Hk := Lib.hid hk
        have HG := Lib.hid hG
        have HNN := Lib.hid hNN
        have hn6' : n ≤ 6 := by rw [← Hn.out]; exact hn6
        clear hE hR hC hm hc hk hin hG hNN hxx hyy ht hN hfE hgE hn6
        go_enter Try.func19, Try.ntmps19
        go_wp2_with fail
        rw [← Hwb.out]
        refine (l02Given_any A (some ⟨w.heap.size + 2, 0, none⟩) n c 2 2 ms [f, g] wb Hx.out H7.out Hn.out rfl hb (by decide)).mono ?_
        rintro e w1 ⟨rfl, hb1⟩
        rw [Hc.out]
        have Hb1 := Lib.hid hb1
        have hz1 := hb1.size
        clear hb1
        go_wp2_with fail
        refine (l01In_any kind 0 3 w1).mono ?_
        rintro e w2 ⟨rfl, rfl⟩
        rw [Hk.out]
        obtain ⟨x0, x1, x2, x3, x4, x5⟩ := HF.out.below Hb1.out (by omega)
        obtain ⟨y0, y1, y2, y3, y4, y5⟩ := HG2.out.below Hb1.out (by omega)
        obtain ⟨wc, hwc⟩ : ∃ wc, wc = w1.alloc (.cells (two f g) 39) := ⟨_, rfl⟩
        have H8 : Hid (RdM wc wc.heap.size (some ⟨w1.heap.size, 0, none⟩) [f, g]) := by show RdM _ _ _ _; rw [hwc]; exact rd_two (Blk.new _ _ _)
        have Hbc : Hid (Below wb.heap.size wb wc) := by show Below _ _ _; rw [hwc]; exact Hb1.out.alloc hz1 _
        have hzc := Hbc.out.size
        have Hwc := Lib.hid hwc
        clear hwc
        go_wp2_with fail
        rw [← Hwc.out]
        clear x0 x1 x2 x3 x4 x5 y0 y1 y2 y3 y4 y5
        refine (l03Given_any A (some ⟨w1.heap.size, 0, none⟩) n c 2 2 ms [f, g] wc (Rd.more (Rd.below Hx.out Hbc.out) hzc) H8.out Hn.out rfl hb (by decide)).mono ?_
        rintro e w2 ⟨A', c', v, rfl, hr, hv, hb2⟩
        rw [HG.out] at hr ⊢
        rw [HNN.out] at hv
        rw [Hm.out, HN.out]
        obtain ⟨Av, cv, hvv, hrv⟩ := hv.form
        subst hvv
        obtain ⟨bv, ov, e, hbv, _⟩ := RdI.at_ hrv (k := 0) (by simp)
        subst e
        have C0 : Hid (w2.cell? ⟨bv, ov, none⟩ = some (I x)) := RdI.at0 hrv (k := 0) (by simp)
        have C1 : Hid (w2.cell? ⟨bv, ov + 1, none⟩ = some (I y)) := RdI.at0 hrv (k := 1) (by simp)
        have Hr := Lib.hid hr
        have Hb2 := Lib.hid (Hbc.out.trans (hb2.mono hzc))
        have hz2 := Hb2.out.size
        simp only [List.length_cons, List.length_nil, Nat.zero_add]
        clear hr hv hrv hb2
        go_wp2_with fail
        refine (l03Kind_any A' N c' E A n c ms kind Hk.out w2 Hr.out HN.out (Rd.more (Rd.below Hx.out Hb2.out) hz2) Hn.out hlen hn6' HE.out.mnd HE.out.mem HE.out.G).mono ?_
        rintro e w3 ⟨v, rfl, ho, hb3⟩
        obtain ⟨A3, c3, hv3, hr3⟩ := ho.form
        rw [clsK_length, HN.out] at hv3
        subst hv3
        obtain ⟨b3, o3, e, hb3l, _⟩ := RdI.at_ hr3 (k := x) (by rw [clsK_length, HN.out]; exact hxl)
        subst e
        obtain ⟨a, ha⟩ : ∃ a, a = gi (clsK E kind) x := ⟨_, rfl⟩
        obtain ⟨b, hb5⟩ : ∃ b, b = gi (clsK E kind) y := ⟨_, rfl⟩
        have D0 : Hid (w3.cell? ⟨b3, o3 + x, none⟩ = some (I a)) := by show _ = _; rw [ha]; exact RdI.at0 hr3 (by rw [clsK_length, HN.out]; exact hxl)
        have D1 : Hid (w3.cell? ⟨b3, o3 + y, none⟩ = some (I b)) := by show _ = _; rw [hb5]; exact RdI.at0 hr3 (by rw [clsK_length, HN.out]; exact hyl)
        have hab : (a == b) = t := by rw [Bool.eq_iff_iff, beq_iff_eq, ha, hb5, ← Ht.out]; exact clsK_eq HE.out.mnd kind (by rw [HN.out]; exact hxl) (by rw [HN.out]; exact hyl)
        have C0' : Hid (w3.cell? ⟨bv, ov, none⟩ = some (I x)) := (hb3.cell (p := ⟨bv, ov, none⟩) hbv).trans C0.out
        have C1' : Hid (w3.cell? ⟨bv, ov + 1, none⟩ = some (I y)) := (hb3.cell (p := ⟨bv, ov + 1, none⟩) hbv).trans C1.out
        have hbv3 : bv < w3.heap.size := Nat.lt_of_lt_of_le hbv hb3.size
        have Hb3 := Lib.hid (Hb2.out.trans (hb3.mono hz2))
        have hz3 := Hb3.out.size
        have HF4 : Hid (∀ w', Below w3.heap.size w3 w' → w'.cell? ⟨bv, ov, none⟩ = some (I x) ∧ w'.cell? ⟨bv, ov + 1, none⟩ = some (I y) ∧ w'.cell? ⟨b3, o3 + x, none⟩ = some (I a) ∧ w'.cell? ⟨b3, o3 + y, none⟩ = some (I b)) := fun w' hS => ⟨(hS.cell (p := ⟨bv, ov, none⟩) hbv3).trans C0'.out, (hS.cell (p := ⟨bv, ov + 1, none⟩) hbv3).trans C1'.out, (hS.cell (p := ⟨b3, o3 + x, none⟩) hb3l).trans D0.out, (hS.cell (p := ⟨b3, o3 + y, none⟩) hb3l).trans D1.out⟩
        clear ho hr3 hb3 ha hb5
        go_wp2_with fail
        refine wp_region_same [] rfl (by kernel_rfl) (by kernel_rfl) (by kernel_rfl) (fun w' => Below w3.heap.size w3 w') _
          [.slice (some ⟨b3, o3, none⟩) N c3, .slice (some ⟨bv, ov, none⟩) 2 cv, .pointer (some ⟨bv, ov, none⟩), I x, .pointer (some ⟨b3, o3 + x, none⟩), I a, .slice (some ⟨b3, o3, none⟩) N c3, .slice (some ⟨bv, ov, none⟩) 2 cv, .pointer (some ⟨bv, ov + 1, none⟩), I y, .pointer (some ⟨b3, o3 + y, none⟩), I b, .bool t, .bool t, I 0]
          (by simp only [putAll, List.setIfInBounds_toArray, List.set_cons_succ, List.set_cons_zero]; rfl) (Below.refl _ _).drew ?hop ?hQ
        case hop =>
          refine FixBL.toL (fun w' w'' hS hb => hS.trans (hb.mono hS.size)) _ _ ?_
          refine ⟨.inr ?_, .inr ?_, .inr ?_, .inr ?_, .inr ?_, .inr ?_, .inr ?_, .inr ?_, .inr ?_, .inr ?_, .inr ?_, .inr ?_, .inr ?_, .inr ?_, .inr ?_, trivial⟩
          · (with_reducible refine FixB.of ?_ ?_; rfl; intro w' hS; obtain ⟨s0, s1, s2, s3⟩ := HF4.out _ hS; clear hS; unfold Oper.wp; go_simp; first | done | exact Below.refl _ _)
          · (with_reducible refine FixB.of ?_ ?_; rfl; intro w' hS; obtain ⟨s0, s1, s2, s3⟩ := HF4.out _ hS; clear hS; unfold Oper.wp; go_simp; first | done | exact Below.refl _ _)
          · (with_reducible refine FixB.of ?_ ?_; rfl; intro w' hS; obtain ⟨s0, s1, s2, s3⟩ := HF4.out _ hS; clear hS; unfold Oper.wp; go_simp; first | done | exact Below.refl _ _)
          · (with_reducible refine FixB.of ?_ ?_; rfl; intro w' hS; obtain ⟨s0, s1, s2, s3⟩ := HF4.out _ hS; clear hS; unfold Oper.wp; go_simp; first | done | exact Below.refl _ _)
          · (with_reducible refine FixB.of ?_ ?_; rfl; intro w' hS; obtain ⟨s0, s1, s2, s3⟩ := HF4.out _ hS; clear hS; unfold Oper.wp; go_simp; first | done | exact Below.refl _ _)
          · (with_reducible refine FixB.of ?_ ?_; rfl; intro w' hS; obtain ⟨s0, s1, s2, s3⟩ := HF4.out _ hS; clear hS; unfold Oper.wp; go_simp; first | done | exact Below.refl _ _)
          · (with_reducible refine FixB.of ?_ ?_; rfl; intro w' hS; obtain ⟨s0, s1, s2, s3⟩ := HF4.out _ hS; clear hS; unfold Oper.wp; go_simp; first | done | exact Below.refl _ _)
          · (with_reducible refine FixB.of ?_ ?_; rfl; intro w' hS; obtain ⟨s0, s1, s2, s3⟩ := HF4.out _ hS; clear hS; unfold Oper.wp; go_simp; first | done | exact Below.refl _ _)
          · (with_reducible refine FixB.of ?_ ?_; rfl; intro w' hS; obtain ⟨s0, s1, s2, s3⟩ := HF4.out _ hS; clear hS; unfold Oper.wp; go_simp; first | done | exact Below.refl _ _)
          · (with_reducible refine FixB.of ?_ ?_; rfl; intro w' hS; obtain ⟨s0, s1, s2, s3⟩ := HF4.out _ hS; clear hS; unfold Oper.wp; go_simp; first | done | exact Below.refl _ _)
          · (with_reducible refine FixB.of ?_ ?_; rfl; intro w' hS; obtain ⟨s0, s1, s2, s3⟩ := HF4.out _ hS; clear hS; unfold Oper.wp; go_simp; first | done | exact Below.refl _ _)
          · (with_reducible refine FixB.of ?_ ?_; rfl; intro w' hS; obtain ⟨s0, s1, s2, s3⟩ := HF4.out _ hS; clear hS; unfold Oper.wp; go_simp; first | done | exact Below.refl _ _)
          · (with_reducible refine FixB.of ?_ ?_; rfl; intro w' hS; obtain ⟨s0, s1, s2, s3⟩ := HF4.out _ hS; clear hS; unfold Oper.wp; go_simp; first | done | exact Below.refl _ _)
          · (with_reducible refine FixB.of ?_ ?_; rfl; intro w' hS; obtain ⟨s0, s1, s2, s3⟩ := HF4.out _ hS; clear hS; unfold Oper.wp; go_simp; first | done | exact Below.refl _ _)
          · (with_reducible refine FixB.of ?_ ?_; rfl; intro w' hS; obtain ⟨s0, s1, s2, s3⟩ := HF4.out _ hS; clear hS; unfold Oper.wp; go_simp; first | done | exact Below.refl _ _)
        case hQ =>
        intro wc hS _
        have HB4 := Lib.hid hS
        clear hS
        have Hbe := Lib.hid (Hbb.out.trans ((Hb3.out.trans (HB4.out.mono hz3)).mono Hbb.out.size))
        go_wp2_with fail
        go_ret2
        exact ⟨by rw [HC.out] <;> rfl, Hbe.out⟩
      · have hR := aaR_bad (f := f) (g := g) (kind := kind) (by rw [hC]; exact hm)
        have hne : (monC ms [f, g] != 0) = true := by simpa using hm
        have HR := Lib.hid hR
        have HC := Lib.hid hC
        have Hc := Lib.hid hc
        have Hk := Lib.hid hk
        clear hR hC hm hc hk
        go_enter Try.func19, Try.ntmps19
        go_wp2_with fail
        rw [← Hwb.out]
        refine (l02Given_any A (some ⟨w.heap.size + 2, 0, none⟩) n c 2 2 ms [f, g] wb Hx.out H7.out Hn.out rfl hb (by decide)).mono ?_
        rintro e w1 ⟨rfl, hb1⟩
        rw [Hc.out]
        have Hb1 := Lib.hid hb1
        have hz1 := hb1.size
        clear hb1
        go_wp2_with fail
        refine (l01In_any kind 0 3 w1).mono ?_
        rintro e w2 ⟨rfl, rfl⟩
        rw [Hk.out]
        obtain ⟨x0, x1, x2, x3, x4, x5⟩ := HF.out.below Hb1.out (by omega)
        obtain ⟨y0, y1, y2, y3, y4, y5⟩ := HG2.out.below Hb1.out (by omega)
        obtain ⟨wc, hwc⟩ : ∃ wc, wc = w1.alloc (.cells (two f g) 39) := ⟨_, rfl⟩
        have H8 : Hid (RdM wc wc.heap.size (some ⟨w1.heap.size, 0, none⟩) [f, g]) := by show RdM _ _ _ _; rw [hwc]; exact rd_two (Blk.new _ _ _)
        have Hbc : Hid (Below wb.heap.size wb wc) := by show Below _ _ _; rw [hwc]; exact Hb1.out.alloc hz1 _
        have hzc := Hbc.out.size
        have Hwc := Lib.hid hwc
        clear hwc
        go_wp2_with fail
        rw [← Hwc.out]
        clear x0 x1 x2 x3 x4 x5 y0 y1 y2 y3 y4 y5
        refine (l03Given_any A (some ⟨w1.heap.size, 0, none⟩) n c 2 2 ms [f, g] wc (Rd.more (Rd.below Hx.out Hbc.out) hzc) H8.out Hn.out rfl hb (by decide)).mono ?_
        rintro e w2 ⟨A', c', v, rfl, hr, hv, hb2⟩
        obtain ⟨Av, cv, hvv, _⟩ := hv.form
        subst hvv
        have Hbe := Lib.hid (Hbb.out.trans ((Hbc.out.trans (hb2.mono hzc)).mono Hbb.out.size))
        clear hr hv hb2
        go_wp2_with fail
        go_ret2
        exact ⟨by rw [HR.out, HC.out] <;> rfl, Hbe.out⟩
    · rw [Bool.not_eq_true] at hk
      have hC := cnC_kind hc hk
      have hR := aaR_bad (f := f) (g := g) (kind := kind) (by rw [hC]; decide)
      have HR := Lib.hid hR
      have HC := Lib.hid hC
      have Hc := Lib.hid hc
      have Hk := Lib.hid hk
      clear hR hC hc hk
      go_enter Try.func19, Try.ntmps19
      go_wp2_with fail
      rw [← Hwb.out]
      refine (l02Given_any A (some ⟨w.heap.size + 2, 0, none⟩) n c 2 2 ms [f, g] wb Hx.out H7.out Hn.out rfl hb (by decide)).mono ?_
      rintro e w1 ⟨rfl, hb1⟩
      rw [Hc.out]
      have Hb1 := Lib.hid hb1
      have hz1 := hb1.size
      clear hb1
      go_wp2_with fail
      refine (l01In_any kind 0 3 w1).mono ?_
      rintro e w2 ⟨rfl, rfl⟩
      rw [Hk.out]
      have Hbe := Lib.hid (Hbb.out.trans (Hb1.out.mono Hbb.out.size))
      go_wp2_with fail
      go_ret2
      exact ⟨by rw [HR.out, HC.out] <;> rfl, Hbe.out⟩
  · have hC := cnC_code (kind := kind) hc
    have hR := aaR_bad (f := f) (g := g) (kind := kind) (by rw [hC]; exact hc)
    have hne : (codeL ms [f, g] != 0) = true := by simpa using hc
    have hne2 : (codeL ms [f, g] == 0) = false := by simpa using hc
    have HR := Lib.hid hR
    have HC := Lib.hid hC
    clear hR hC hc
    go_enter Try.func19, Try.ntmps19
    go_wp2_with fail
    rw [← Hwb.out]
    refine (l02Given_any A (some ⟨w.heap.size + 2, 0, none⟩) n c 2 2 ms [f, g] wb Hx.out H7.out Hn.out rfl hb (by decide)).mono ?_
    rintro e w1 ⟨rfl, hb1⟩
    have Hbe := Lib.hid (Hbb.out.trans (hb1.mono Hbb.out.size))
    clear hb1
    go_wp2_with fail
    go_ret2
    exact ⟨by rw [HR.out, HC.out] <;> rfl, Hbe.out⟩

set_option maxHeartbeats 2000000 in
theorem ImplAA_any (A : Option Addr) (n c : Nat) (ms : List M) (f g : M) (kind : Int) (w : World) (hx : RdM w w.heap.size A ms) (hn : ms.length = n) (hA : A = none → n = 0 ∧ c = 0) (hb : n < 536870912) :
    Calls Try.prog 21 #[.slice A n c, .agg (mc f), .agg (mc g), I kind] w fun e w' => e = .returned (.tuple #[.bool (aaR ms f g kind), I (cnC ms [f, g] kind)]) ∧ Below w.heap.size w w' := by
  obtain ⟨wb, hwb⟩ : ∃ wb, wb = ((w.alloc (.cells (mc f) 39)).alloc (.cells (mc g) 39)).alloc (.cells (two f g) 39) := ⟨_, rfl⟩
  have hbb : Below w.heap.size w wb := by rw [hwb]; exact (((Below.refl _ _).alloc (Nat.le_refl _) _).alloc (by simp) _).alloc (by simp; omega) _
  have h7 : RdM wb wb.heap.size (some ⟨w.heap.size + 2, 0, none⟩) [f, g] := by rw [hwb]; exact rd_two (Blk.new' _ _ _ (by simp))
  have hF : Six wb w.heap.size f := by rw [hwb]; exact Blk.six (((Blk.new w _ _).alloc _).alloc _)
  have hG2 : Six wb (w.heap.size + 1) g := by rw [hwb]; exact Blk.six ((Blk.new' _ _ _ (by simp)).alloc _)
  have hsz : wb.heap.size = w.heap.size + 3 := by rw [hwb]; simp
  have Hx := Lib.hid (Rd.more (Rd.below hx hbb) hbb.size)
  have Hn := Lib.hid hn
  have HA := Lib.hid hA
  have H7 := Lib.hid h7
  have HF := Lib.hid hF
  have HG2 := Lib.hid hG2
  have Hbb := Lib.hid hbb
  have Hwb := Lib.hid hwb
  clear hx hn hA h7 hbb hwb hF hG2
  by_cases hc : codeL ms [f, g] = 0
  · by_cases hk : inR kind 0 3 = true
    · have hC := cnC_mon hc hk
      by_cases hm : monC ms [f, g] = 0
      · obtain ⟨E, ps, hE, hin⟩ := monC_el hm
        have hfE := hin f (by simp)
        have hgE := hin g (by simp)
        have hR : aaR ms f g kind = sameK E kind (ix E f) (ix E g) := by unfold aaR; rw [hC, decide_eq_true hm, Bool.true_and, hE.r]
        rw [hm] at hC
        obtain ⟨x, hxx⟩ : ∃ x, x = ix E f := ⟨_, rfl⟩
        obtain ⟨y, hyy⟩ : ∃ y, y = ix E g := ⟨_, rfl⟩
        have hxl : x < E.length := by rw [hxx]; exact ix_lt hfE
        have hyl : y < E.length := by rw [hyy]; exact ix_lt hgE
        rw [← hxx, ← hyy] at hR
        obtain ⟨t, ht⟩ : ∃ t, t = aaR ms f g kind := ⟨_, rfl⟩
        have Ht : Hid (sameK E kind x y = t) := by show _ = _; rw [ht, hR]
        rw [← ht]
        have Hxx := Lib.hid hxx
        have Hyy := Lib.hid hyy
        have HC := Lib.hid hC
        have HE := Lib.hid hE
        have Hm := Lib.hid hm
        have Hc := Lib.hid hc
        have Hk := Lib.hid hk
        clear hE hR hC hm hc hk hin hxx hyy ht hfE hgE
        go_enter Try.func21, Try.ntmps21
        go_wp2_with fail
        rw [← Hwb.out]
        refine (listCode_any A (some ⟨w.heap.size + 2, 0, none⟩) n c 2 2 ms [f, g] wb Hx.out H7.out Hn.out rfl HA.out (fun h => by cases h) (by omega)).mono ?_
        rintro e w1 ⟨rfl, hb1⟩
        rw [Hc.out]
        have Hb0 := Lib.hid hb1
        have hz0 := hb1.size
        clear hb1
        go_wp2_with fail
        refine (isKind_any kind w1).mono ?_
        rintro e w2 ⟨rfl, hb2⟩
        rw [Hk.out]
        have Hb1 := Lib.hid (Hb0.out.trans (hb2.mono hz0))
        have hz1 := Hb1.out.size
        clear hb2
        obtain ⟨x0, x1, x2, x3, x4, x5⟩ := HF.out.below Hb1.out (by omega)
        obtain ⟨y0, y1, y2, y3, y4, y5⟩ := HG2.out.below Hb1.out (by omega)
        obtain ⟨wc, hwc⟩ : ∃ wc, wc = w2.alloc (.cells (two f g) 39) := ⟨_, rfl⟩
        have H8 : Hid (RdM wc wc.heap.size (some ⟨w2.heap.size, 0, none⟩) [f, g]) := by show RdM _ _ _ _; rw [hwc]; exact rd_two (Blk.new _ _ _)
        have Hbc : Hid (Below wb.heap.size wb wc) := by show Below _ _ _; rw [hwc]; exact Hb1.out.alloc hz1 _
        have hzc := Hbc.out.size
        have Hwc := Lib.hid hwc
        clear hwc
        go_wp2_with fail
        rw [← Hwc.out]
        clear x0 x1 x2 x3 x4 x5 y0 y1 y2 y3 y4 y5
        refine (monoidOf_any A (some ⟨w2.heap.size, 0, none⟩) n c 2 2 ms [f, g] wc (Rd.more (Rd.below Hx.out Hbc.out) hzc) H8.out Hn.out rfl HA.out (fun h => by cases h) (by omega)).mono ?_
        rintro e w3 ⟨r, v, rfl, hb3, hr0, hs⟩
        obtain ⟨g0, rfl, hM, hv⟩ := hs ps HE.out.clo Hm.out
        rw [← HE.out.eq] at hM hv
        simp only [List.map_cons, List.map_nil] at hv
        rw [← Hxx.out, ← Hyy.out] at hv
        rw [Hm.out]
        obtain ⟨Av, cv, hvv, hrv⟩ := hv.form
        subst hvv
        obtain ⟨bv, ov, e, hbv, _⟩ := RdI.at_ hrv (k := 0) (by simp)
        subst e
        have C0 : Hid (w3.cell? ⟨bv, ov, none⟩ = some (I x)) := RdI.at0 hrv (k := 0) (by simp)
        have C1 : Hid (w3.cell? ⟨bv, ov + 1, none⟩ = some (I y)) := RdI.at0 hrv (k := 1) (by simp)
        have HM := Lib.hid hM
        have Hb3 := Lib.hid (Hbc.out.trans (hb3.mono hzc))
        have hz3 := Hb3.out.size
        clear hM hs hr0 hv hrv hb3
        simp only [List.length_cons, List.length_nil, Nat.zero_add]
        go_wp2_with fail
        refine wp_region_flags [] rfl (by kernel_rfl) (by kernel_rfl) [] (by kernel_rfl) _
          (fun s : Nat => [.pointer (some ⟨g0, 0, none⟩), .pointer (some ⟨s, 0, none⟩), .slice (some ⟨bv, ov, none⟩) 2 cv, .pointer (some ⟨bv, ov, none⟩), I x, .slice (some ⟨bv, ov, none⟩) 2 cv, .pointer (some ⟨bv, ov + 1, none⟩), I y, I kind, .bool t, .bool t, I 0])
          (by intro s; simp only [putAll, List.setIfInBounds_toArray, List.set_cons_succ, List.set_cons_zero]; rfl)
          [] rfl _
          (by intro s; simp only [setAll, List.setIfInBounds_toArray, List.set_cons_succ, List.set_cons_zero]; rfl) (by kernel_rfl)
          (fun d s w' => Below w3.heap.size w3 w' ∧ (d 1 = true → IdeAt w' s E))
          0 ⟨(Below.refl _ _).drew, by simp⟩ ?hop ?hQ
        case hop =>
          refine ⟨?_, ?_, ?_, ?_, ?_, ?_, ?_, ?_, ?_, ?_, ?_, ?_, trivial⟩
          · refine ⟨rfl, Flag.pure (fun _ _ _ h => h) fun d c w' hd hdeps hcl hS => ?_⟩
            skip
            clear hS hdeps hcl hd
            unfold Oper.wp
            go_simp
            exact ⟨rfl, fun t ht => by injection ht with ht; subst ht; rfl, rfl⟩
          · refine ⟨rfl, fun d s w' hd hdeps hcl hS => ?_⟩
            have HS := Lib.hid hS.1
            clear hS hdeps hcl
            unfold Oper.wp
            go_simp
            refine (ideals_any w' ((HM.out.below HS.out (Nat.le_refl _))) HE.out.len HE.out.mnd).mono ?_
            rintro e w4 ⟨q, rfl, hI, hb4⟩
            refine FlagPost.own q 38 (.pointer (some ⟨q, 0, none⟩)) rfl rfl rfl ?_ rfl
            exact ⟨HS.out.trans (hb4.mono HS.out.size), fun _ => hI⟩
          · refine ⟨rfl, Flag.pure (fun _ _ _ h => h) fun d c w' hd hdeps hcl hS => ?_⟩
            skip
            clear hS hdeps hcl hd
            unfold Oper.wp
            go_simp
            exact ⟨rfl, fun t ht => by injection ht with ht; subst ht; rfl, rfl⟩
          · refine ⟨rfl, Flag.pure (fun _ _ _ h => h) fun d c w' hd hdeps hcl hS => ?_⟩
            skip
            clear hS hdeps hcl hd
            unfold Oper.wp
            go_simp
            exact ⟨rfl, fun t ht => by injection ht with ht; subst ht; rfl, rfl⟩
          · refine ⟨rfl, Flag.pure (fun _ _ _ h => h) fun d c w' hd hdeps hcl hS => ?_⟩
            have s0 := (hS.1.cell (p := ⟨bv, ov, none⟩) hbv).trans C0.out
            clear hS hdeps hcl hd
            unfold Oper.wp
            go_simp
            exact ⟨rfl, fun t ht => by injection ht with ht; subst ht; rfl, rfl⟩
          · refine ⟨rfl, Flag.pure (fun _ _ _ h => h) fun d c w' hd hdeps hcl hS => ?_⟩
            skip
            clear hS hdeps hcl hd
            unfold Oper.wp
            go_simp
            exact ⟨rfl, fun t ht => by injection ht with ht; subst ht; rfl, rfl⟩
          · refine ⟨rfl, Flag.pure (fun _ _ _ h => h) fun d c w' hd hdeps hcl hS => ?_⟩
            skip
            clear hS hdeps hcl hd
            unfold Oper.wp
            go_simp
            exact ⟨rfl, fun t ht => by injection ht with ht; subst ht; rfl, rfl⟩
          · refine ⟨rfl, Flag.pure (fun _ _ _ h => h) fun d c w' hd hdeps hcl hS => ?_⟩
            have s0 := (hS.1.cell (p := ⟨bv, ov + 1, none⟩) hbv).trans C1.out
            clear hS hdeps hcl hd
            unfold Oper.wp
            go_simp
            exact ⟨rfl, fun t ht => by injection ht with ht; subst ht; rfl, rfl⟩
          · refine ⟨rfl, Flag.pure (fun _ _ _ h => h) fun d c w' hd hdeps hcl hS => ?_⟩
            skip
            clear hS hdeps hcl hd
            unfold Oper.wp
            go_simp
            exact ⟨rfl, fun t ht => by injection ht with ht; subst ht; rfl, rfl⟩
          · refine ⟨rfl, fun d s w' hd hdeps hcl hS => ?_⟩
            have d1 := hdeps 1 (by kernel_rfl)
            have HI := Lib.hid (hS.2 d1)
            have HS := Lib.hid hS.1
            clear hS hdeps hcl
            unfold Oper.wp
            go_simp
            refine (alike_any w' HI.out HE.out.len HE.out.mnd hxl hyl).mono ?_
            rintro e w4 ⟨rfl, hb4⟩
            rw [Ht.out]
            refine FlagPost.own s 46 (.bool t) rfl rfl rfl ?_ rfl
            exact ⟨HS.out.trans (hb4.mono HS.out.size), fun _ => HI.out.below hb4 (Nat.le_refl _)⟩
          · refine ⟨rfl, Flag.pure (fun _ _ _ h => h) fun d c w' hd hdeps hcl hS => ?_⟩
            skip
            clear hS hdeps hcl hd
            unfold Oper.wp
            go_simp
            exact ⟨rfl, fun t ht => by injection ht with ht; subst ht; rfl, rfl⟩
          · refine ⟨rfl, Flag.pure (fun _ _ _ h => h) fun d c w' hd hdeps hcl hS => ?_⟩
            skip
            clear hS hdeps hcl hd
            unfold Oper.wp
            go_simp
            exact ⟨rfl, fun t ht => by injection ht with ht; subst ht; rfl, rfl⟩
        case hQ =>
          intro fl s we hall hS
          have Hbe := Lib.hid (Hbb.out.trans ((Hb3.out.trans (hS.1.mono hz3)).mono Hbb.out.size))
          clear hall hS
          go_wp2_with fail
          go_ret2
          exact ⟨by rw [HC.out] <;> rfl, Hbe.out⟩
      · have hR := aaR_bad (f := f) (g := g) (kind := kind) (by rw [hC]; exact hm)
        have hne : (monC ms [f, g] != 0) = true := by simpa using hm
        have HR := Lib.hid hR
        have HC := Lib.hid hC
        have Hm := Lib.hid hm
        have Hc := Lib.hid hc
        have Hk := Lib.hid hk
        clear hR hC hm hc hk
        go_enter Try.func21, Try.ntmps21
        go_wp2_with fail
        rw [← Hwb.out]
        refine (listCode_any A (some ⟨w.heap.size + 2, 0, none⟩) n c 2 2 ms [f, g] wb Hx.out H7.out Hn.out rfl HA.out (fun h => by cases h) (by omega)).mono ?_
        rintro e w1 ⟨rfl, hb1⟩
        rw [Hc.out]
        have Hb0 := Lib.hid hb1
        have hz0 := hb1.size
        clear hb1
        go_wp2_with fail
        refine (isKind_any kind w1).mono ?_
        rintro e w2 ⟨rfl, hb2⟩
        rw [Hk.out]
        have Hb1 := Lib.hid (Hb0.out.trans (hb2.mono hz0))
        have hz1 := Hb1.out.size
        clear hb2
        obtain ⟨x0, x1, x2, x3, x4, x5⟩ := HF.out.below Hb1.out (by omega)
        obtain ⟨y0, y1, y2, y3, y4, y5⟩ := HG2.out.below Hb1.out (by omega)
        obtain ⟨wc, hwc⟩ : ∃ wc, wc = w2.alloc (.cells (two f g) 39) := ⟨_, rfl⟩
        have H8 : Hid (RdM wc wc.heap.size (some ⟨w2.heap.size, 0, none⟩) [f, g]) := by show RdM _ _ _ _; rw [hwc]; exact rd_two (Blk.new _ _ _)
        have Hbc : Hid (Below wb.heap.size wb wc) := by show Below _ _ _; rw [hwc]; exact Hb1.out.alloc hz1 _
        have hzc := Hbc.out.size
        have Hwc := Lib.hid hwc
        clear hwc
        go_wp2_with fail
        rw [← Hwc.out]
        clear x0 x1 x2 x3 x4 x5 y0 y1 y2 y3 y4 y5
        refine (monoidOf_any A (some ⟨w2.heap.size, 0, none⟩) n c 2 2 ms [f, g] wc (Rd.more (Rd.below Hx.out Hbc.out) hzc) H8.out Hn.out rfl HA.out (fun h => by cases h) (by omega)).mono ?_
        rintro e w3 ⟨r, v, rfl, hb3, hr0, hs⟩
        obtain ⟨rfl, rfl⟩ := hr0 Hm.out
        have Hbe := Lib.hid (Hbb.out.trans ((Hbc.out.trans (hb3.mono hzc)).mono Hbb.out.size))
        clear hs hr0 hb3
        go_wp2_with fail
        go_ret2
        exact ⟨by rw [HR.out, HC.out] <;> rfl, Hbe.out⟩
    · rw [Bool.not_eq_true] at hk
      have hC := cnC_kind hc hk
      have hR := aaR_bad (f := f) (g := g) (kind := kind) (by rw [hC]; decide)
      have HR := Lib.hid hR
      have HC := Lib.hid hC
      have Hc := Lib.hid hc
      have Hk := Lib.hid hk
      clear hR hC hc hk
      go_enter Try.func21, Try.ntmps21
      go_wp2_with fail
      rw [← Hwb.out]
      refine (listCode_any A (some ⟨w.heap.size + 2, 0, none⟩) n c 2 2 ms [f, g] wb Hx.out H7.out Hn.out rfl HA.out (fun h => by cases h) (by omega)).mono ?_
      rintro e w1 ⟨rfl, hb1⟩
      rw [Hc.out]
      have Hb0 := Lib.hid hb1
      have hz0 := hb1.size
      clear hb1
      go_wp2_with fail
      refine (isKind_any kind w1).mono ?_
      rintro e w2 ⟨rfl, hb2⟩
      rw [Hk.out]
      have Hb1 := Lib.hid (Hb0.out.trans (hb2.mono hz0))
      have hz1 := Hb1.out.size
      clear hb2
      have Hbe := Lib.hid (Hbb.out.trans (Hb1.out.mono Hbb.out.size))
      go_wp2_with fail
      go_ret2
      exact ⟨by rw [HR.out, HC.out] <;> rfl, Hbe.out⟩
  · have hC := cnC_code (kind := kind) hc
    have hR := aaR_bad (f := f) (g := g) (kind := kind) (by rw [hC]; exact hc)
    have hne : (codeL ms [f, g] != 0) = true := by simpa using hc
    have HR := Lib.hid hR
    have HC := Lib.hid hC
    clear hR hC hc
    go_enter Try.func21, Try.ntmps21
    go_wp2_with fail
    rw [← Hwb.out]
    refine (listCode_any A (some ⟨w.heap.size + 2, 0, none⟩) n c 2 2 ms [f, g] wb Hx.out H7.out Hn.out rfl HA.out (fun h => by cases h) (by omega)).mono ?_
    rintro e w1 ⟨rfl, hb1⟩
    have Hbe := Lib.hid (Hbb.out.trans (hb1.mono Hbb.out.size))
    clear hb1
    go_wp2_with fail
    go_ret2
    exact ⟨by rw [HR.out, HC.out] <;> rfl, Hbe.out⟩
end Go.Proofs.Ytneonacdjmfaoaa
