/- Contracts of AreAlike on both sides; the lists are as each theorem states. The law on classes in plain words: numbers of classes, full classes, joined classes, and likeness both ways; no program in sight; the lists are as each theorem states. Contract of the count of different numbers among those of the places with a property; at most 300 places. Contract of GridOf of the reference; the lists are as the theorem states. Contract of GridOf of the program; the lists are as the theorem states. -/
import Derived.Test.YtkbfocoaobiijaaGreatQG12
set_option linter.unusedSimpArgs false
set_option linter.unusedVariables false
namespace Go.Proofs.YtkbfocoaobiijaaGreat
open Go.RowKit
set_option maxRecDepth 100000
set_option linter.unusedSimpArgs false
set_option linter.unusedVariables false
def aaR (ms : List M) (f g : M) (kind : Int) : Bool := decide (cnC ms [f, g] kind = 0) && sameK (elR ms [f, g]) kind (ix (elR ms [f, g]) f) (ix (elR ms [f, g]) g)
theorem aaR_bad {ms : List M} {f g : M} {kind : Int} (h : cnC ms [f, g] kind ≠ 0) : aaR ms f g kind = false := by unfold aaR; rw [decide_eq_false h]; rfl
abbrev two (f g : M) : Array Value := #[I f.p, I f.t0, I f.t1, I f.t2, I f.t3, I f.t4, I g.p, I g.t0, I g.t1, I g.t2, I g.t3, I g.t4]
set_option maxHeartbeats 2000000 in
theorem SpecAA_any (A : Option Addr) (n c : Nat) (ms : List M) (f g : M) (kind : Int) (w : World) (hx : RdM w w.heap.size A ms) (hn : ms.length = n) (hb : n < 1073741824) :
    Calls Tryz.prog 50 #[.slice A n c, .agg (mc f), .agg (mc g), I kind] w fun e w' => e = .returned (.tuple #[.bool (aaR ms f g kind), I (cnC ms [f, g] kind)]) ∧ Below w.heap.size w w' := by
  obtain ⟨wb, hwb⟩ : ∃ wb, wb = ((w.alloc (.cells (mc f) 31)).alloc (.cells (mc g) 31)).alloc (.cells (two f g) 31) := ⟨_, rfl⟩
  have hbb : Below w.heap.size w wb := by rw [hwb]; exact (((Below.refl _ _).alloc (Nat.le_refl _) _).alloc (by simp) _).alloc (by simp; omega) _
  have h7 : RdM wb wb.heap.size (some ⟨w.heap.size + 2, 0, none⟩) [f, g] := by rw [hwb]; exact rd_two (Blk.new' _ _ _ (by simp))
  have hF : Six wb w.heap.size f := by rw [hwb]; exact Blk.six (((Blk.new w _ _).alloc _).alloc _)
  have hG2 : Six wb (w.heap.size + 1) g := by rw [hwb]; exact Blk.six ((Blk.new' _ _ _ (by simp)).alloc _)
  have hsz : wb.heap.size = w.heap.size + 3 := by rw [hwb]; simp
  have Hx := Lib.hid (Rd.more (Rd.below hx hbb) hbb.size)
  have Hn := Lib.hid hn
  have H7 := Lib.hid h7
  have HF := Lib.hid hF
  have HG2 := Lib.hid hG2
  have Hbb := Lib.hid hbb
  have Hwb := Lib.hid hwb
  clear hx hn h7 hbb hwb hF hG2
  by_cases hc : codeL ms [f, g] = 0
  · by_cases hk : inR kind 0 3 = true
    · have hC := cnC_mon hc hk
      by_cases hm : monC ms [f, g] = 0
      · obtain ⟨E, ps, hE, hin⟩ := monC_el hm
        have hfE := hin f (by simp)
        have hgE := hin g (by simp)
        have hR : aaR ms f g kind = sameK E kind (ix E f) (ix E g) := by unfold aaR; rw [hC, decide_eq_true hm, Bool.true_and, hE.r]
        have hG : gR ms [f, g] = E := by unfold gR; rw [if_pos hm, hE.r]
        have hNN : gN ms [f, g] = [(ix E f : Int), (ix E g : Int)] := by unfold gN; rw [if_pos hm, hE.r]; rfl
        have hlen := hE.len
        have hn6 := hE.n6
        rw [hm] at hC
        obtain ⟨x, hxx⟩ : ∃ x, x = ix E f := ⟨_, rfl⟩
        obtain ⟨y, hyy⟩ : ∃ y, y = ix E g := ⟨_, rfl⟩
        have hxl : x < E.length := by rw [hxx]; exact ix_lt hfE
        have hyl : y < E.length := by rw [hyy]; exact ix_lt hgE
        rw [← hxx, ← hyy] at hNN hR
        obtain ⟨t, ht⟩ : ∃ t, t = aaR ms f g kind := ⟨_, rfl⟩
        have Ht : Hid (sameK E kind x y = t) := by show _ = _; rw [ht, hR]
        obtain ⟨N, hN⟩ : ∃ N, E.length = N := ⟨_, rfl⟩
        rw [hN] at hlen hxl hyl
        have hxz : (x : Int) < (N : Int) := by omega
        have hyz : (y : Int) < (N : Int) := by omega
        rw [← ht]
        have HC := Lib.hid hC
        have HN := Lib.hid hN
        have HE := Lib.hid hE
        have Hm := Lib.hid hm
        have Hc := Lib.hid hc
        have Hk := Lib.hid hk
        have HG := Lib.hid hG
        have HNN := Lib.hid hNN
        have hn6' : n ≤ 6 := by rw [← Hn.out]; exact hn6
        clear hE hR hC hm hc hk hin hG hNN hxx hyy ht hN hfE hgE hn6
        go_enter Tryz.func50, Tryz.ntmps50
        go_wp2_with fail
        rw [← Hwb.out]
        refine (l02Given_any A (some ⟨w.heap.size + 2, 0, none⟩) n c 2 2 ms [f, g] wb Hx.out H7.out Hn.out rfl hb (by decide)).mono ?_
        rintro e w1 ⟨rfl, hb1⟩
        rw [Hc.out]
        have Hb1 := Lib.hid hb1
        have hz1 := hb1.size
        clear hb1
        go_wp2_with fail
        refine (l01In_any kind 0 3 w1).mono ?_
        rintro e w2 ⟨rfl, rfl⟩
        rw [Hk.out]
        obtain ⟨x0, x1, x2, x3, x4, x5⟩ := HF.out.below Hb1.out (by omega)
        obtain ⟨y0, y1, y2, y3, y4, y5⟩ := HG2.out.below Hb1.out (by omega)
        obtain ⟨wc, hwc⟩ : ∃ wc, wc = w1.alloc (.cells (two f g) 31) := ⟨_, rfl⟩
        have H8 : Hid (RdM wc wc.heap.size (some ⟨w1.heap.size, 0, none⟩) [f, g]) := by show RdM _ _ _ _; rw [hwc]; exact rd_two (Blk.new _ _ _)
        have Hbc : Hid (Below wb.heap.size wb wc) := by show Below _ _ _; rw [hwc]; exact Hb1.out.alloc hz1 _
        have hzc := Hbc.out.size
        have Hwc := Lib.hid hwc
        clear hwc
        go_wp2_with fail
        rw [← Hwc.out]
        clear x0 x1 x2 x3 x4 x5 y0 y1 y2 y3 y4 y5
        refine (l03Given_any A (some ⟨w1.heap.size, 0, none⟩) n c 2 2 ms [f, g] wc (Rd.more (Rd.below Hx.out Hbc.out) hzc) H8.out Hn.out rfl hb (by decide)).mono ?_
        rintro e w2 ⟨A', c', v, rfl, hr, hv, hb2⟩
        rw [HG.out] at hr ⊢
        rw [HNN.out] at hv
        rw [Hm.out, HN.out]
        obtain ⟨Av, cv, hvv, hrv⟩ := hv.form
        subst hvv
        obtain ⟨bv, ov, e, hbv, _⟩ := RdI.at_ hrv (k := 0) (by simp)
        subst e
        have C0 : Hid (w2.cell? ⟨bv, ov, none⟩ = some (I x)) := RdI.at0 hrv (k := 0) (by simp)
        have C1 : Hid (w2.cell? ⟨bv, ov + 1, none⟩ = some (I y)) := RdI.at0 hrv (k := 1) (by simp)
        have Hr := Lib.hid hr
        have Hb2 := Lib.hid (Hbc.out.trans (hb2.mono hzc))
        have hz2 := Hb2.out.size
        simp only [List.length_cons, List.length_nil, Nat.zero_add]
        clear hr hv hrv hb2
        go_wp2_with fail
        refine (l03Kind_any A' N c' E A n c ms kind Hk.out w2 Hr.out HN.out (Rd.more (Rd.below Hx.out Hb2.out) hz2) Hn.out hlen hn6' HE.out.mnd HE.out.mem HE.out.G).mono ?_
        rintro e w3 ⟨v, rfl, ho, hb3⟩
        obtain ⟨A3, c3, hv3, hr3⟩ := ho.form
        rw [clsK_length, HN.out] at hv3
        subst hv3
        obtain ⟨b3, o3, e, hb3l, _⟩ := RdI.at_ hr3 (k := x) (by rw [clsK_length, HN.out]; exact hxl)
        subst e
        obtain ⟨a, ha⟩ : ∃ a, a = gi (clsK E kind) x := ⟨_, rfl⟩
        obtain ⟨b, hb5⟩ : ∃ b, b = gi (clsK E kind) y := ⟨_, rfl⟩
        have D0 : Hid (w3.cell? ⟨b3, o3 + x, none⟩ = some (I a)) := by show _ = _; rw [ha]; exact RdI.at0 hr3 (by rw [clsK_length, HN.out]; exact hxl)
        have D1 : Hid (w3.cell? ⟨b3, o3 + y, none⟩ = some (I b)) := by show _ = _; rw [hb5]; exact RdI.at0 hr3 (by rw [clsK_length, HN.out]; exact hyl)
        have hab : (a == b) = t := by rw [Bool.eq_iff_iff, beq_iff_eq, ha, hb5, ← Ht.out]; exact clsK_eq HE.out.mnd kind (by rw [HN.out]; exact hxl) (by rw [HN.out]; exact hyl)
        have C0' : Hid (w3.cell? ⟨bv, ov, none⟩ = some (I x)) := (hb3.cell (p := ⟨bv, ov, none⟩) hbv).trans C0.out
        have C1' : Hid (w3.cell? ⟨bv, ov + 1, none⟩ = some (I y)) := (hb3.cell (p := ⟨bv, ov + 1, none⟩) hbv).trans C1.out
        have hbv3 : bv < w3.heap.size := Nat.lt_of_lt_of_le hbv hb3.size
        have Hb3 := Lib.hid (Hb2.out.trans (hb3.mono hz2))
        have hz3 := Hb3.out.size
        have HF4 : Hid (∀ w', Below w3.heap.size w3 w' → w'.cell? ⟨bv, ov, none⟩ = some (I x) ∧ w'.cell? ⟨bv, ov + 1, none⟩ = some (I y) ∧ w'.cell? ⟨b3, o3 + x, none⟩ = some (I a) ∧ w'.cell? ⟨b3, o3 + y, none⟩ = some (I b)) := fun w' hS => ⟨(hS.cell (p := ⟨bv, ov, none⟩) hbv3).trans C0'.out, (hS.cell (p := ⟨bv, ov + 1, none⟩) hbv3).trans C1'.out, (hS.cell (p := ⟨b3, o3 + x, none⟩) hb3l).trans D0.out, (hS.cell (p := ⟨b3, o3 + y, none⟩) hb3l).trans D1.out⟩
        clear ho hr3 hb3 ha hb5
        go_wp2_with fail
        refine wp_region_same [] rfl (by kernel_rfl) (by kernel_rfl) (by kernel_rfl) (fun w' => Below w3.heap.size w3 w') _
          [.slice (some ⟨b3, o3, none⟩) N c3, .slice (some ⟨bv, ov, none⟩) 2 cv, .pointer (some ⟨bv, ov, none⟩), I x, .pointer (some ⟨b3, o3 + x, none⟩), I a, .slice (some ⟨b3, o3, none⟩) N c3, .slice (some ⟨bv, ov, none⟩) 2 cv, .pointer (some ⟨bv, ov + 1, none⟩), I y, .pointer (some ⟨b3, o3 + y, none⟩), I b, .bool t, .bool t, I 0]
          (by simp only [putAll, List.setIfInBounds_toArray, List.set_cons_succ, List.set_cons_zero]; rfl) (Below.refl _ _).drew ?hop ?hQ
        case hop =>
          refine FixBL.toL (fun w' w'' hS hb => hS.trans (hb.mono hS.size)) _ _ ?_
          refine ⟨.inr ?_, .inr ?_, .inr ?_, .inr ?_, .inr ?_, .inr ?_, .inr ?_, .inr ?_, .inr ?_, .inr ?_, .inr ?_, .inr ?_, .inr ?_, .inr ?_, .inr ?_, trivial⟩
          · (with_reducible refine FixB.of ?_ ?_; rfl; intro w' hS; obtain ⟨s0, s1, s2, s3⟩ := HF4.out _ hS; clear hS; unfold Oper.wp; go_simp; first | done | exact Below.refl _ _)
          · (with_reducible refine FixB.of ?_ ?_; rfl; intro w' hS; obtain ⟨s0, s1, s2, s3⟩ := HF4.out _ hS; clear hS; unfold Oper.wp; go_simp; first | done | exact Below.refl _ _)
          · (with_reducible refine FixB.of ?_ ?_; rfl; intro w' hS; obtain ⟨s0, s1, s2, s3⟩ := HF4.out _ hS; clear hS; unfold Oper.wp; go_simp; first | done | exact Below.refl _ _)
          · (with_reducible refine FixB.of ?_ ?_; rfl; intro w' hS; obtain ⟨s0, s1, s2, s3⟩ := HF4.out _ hS; clear hS; unfold Oper.wp; go_simp; first | done | exact Below.refl _ _)
          · (with_reducible refine FixB.of ?_ ?_; rfl; intro w' hS; obtain ⟨s0, s1, s2, s3⟩ := HF4.out _ hS; clear hS; unfold Oper.wp; go_simp; first | done | exact Below.refl _ _)
          · (with_reducible refine FixB.of ?_ ?_; rfl; intro w' hS; obtain ⟨s0, s1, s2, s3⟩ := HF4.out _ hS; clear hS; unfold Oper.wp; go_simp; first | done | exact Below.refl _ _)
          · (with_reducible refine FixB.of ?_ ?_; rfl; intro w' hS; obtain ⟨s0, s1, s2, s3⟩ := HF4.out _ hS; clear hS; unfold Oper.wp; go_simp; first | done | exact Below.refl _ _)
          · (with_reducible refine FixB.of ?_ ?_; rfl; intro w' hS; obtain ⟨s0, s1, s2, s3⟩ := HF4.out _ hS; clear hS; unfold Oper.wp; go_simp; first | done | exact Below.refl _ _)
          · (with_reducible refine FixB.of ?_ ?_; rfl; intro w' hS; obtain ⟨s0, s1, s2, s3⟩ := HF4.out _ hS; clear hS; unfold Oper.wp; go_simp; first | done | exact Below.refl _ _)
          · (with_reducible refine FixB.of ?_ ?_; rfl; intro w' hS; obtain ⟨s0, s1, s2, s3⟩ := HF4.out _ hS; clear hS; unfold Oper.wp; go_simp; first | done | exact Below.refl _ _)
          · (with_reducible refine FixB.of ?_ ?_; rfl; intro w' hS; obtain ⟨s0, s1, s2, s3⟩ := HF4.out _ hS; clear hS; unfold Oper.wp; go_simp; first | done | exact Below.refl _ _)
          · (with_reducible refine FixB.of ?_ ?_; rfl; intro w' hS; obtain ⟨s0, s1, s2, s3⟩ := HF4.out _ hS; clear hS; unfold Oper.wp; go_simp; first | done | exact Below.refl _ _)
          · (with_reducible refine FixB.of ?_ ?_; rfl; intro w' hS; obtain ⟨s0, s1, s2, s3⟩ := HF4.out _ hS; clear hS; unfold Oper.wp; go_simp; first | done | exact Below.refl _ _)
          · (with_reducible refine FixB.of ?_ ?_; rfl; intro w' hS; obtain ⟨s0, s1, s2, s3⟩ := HF4.out _ hS; clear hS; unfold Oper.wp; go_simp; first | done | exact Below.refl _ _)
          · (with_reducible refine FixB.of ?_ ?_; rfl; intro w' hS; obtain ⟨s0, s1, s2, s3⟩ := HF4.out _ hS; clear hS; unfold Oper.wp; go_simp; first | done | exact Below.refl _ _)
        case hQ =>
        intro wc hS _
        have HB4 := Lib.hid hS
        clear hS
        have Hbe := Lib.hid (Hbb.out.trans ((Hb3.out.trans (HB4.out.mono hz3)).mono Hbb.out.size))
        go_wp2_with fail
        go_ret2
        exact ⟨by rw [HC.out] <;> rfl, Hbe.out⟩
      · have hR := aaR_bad (f := f) (g := g) (kind := kind) (by rw [hC]; exact hm)
        have hne : (monC ms [f, g] != 0) = true := by simpa using hm
        have HR := Lib.hid hR
        have HC := Lib.hid hC
        have Hc := Lib.hid hc
        have Hk := Lib.hid hk
        clear hR hC hm hc hk
        go_enter Tryz.func50, Tryz.ntmps50
        go_wp2_with fail
        rw [← Hwb.out]
        refine (l02Given_any A (some ⟨w.heap.size + 2, 0, none⟩) n c 2 2 ms [f, g] wb Hx.out H7.out Hn.out rfl hb (by decide)).mono ?_
        rintro e w1 ⟨rfl, hb1⟩
        rw [Hc.out]
        have Hb1 := Lib.hid hb1
        have hz1 := hb1.size
        clear hb1
        go_wp2_with fail
        refine (l01In_any kind 0 3 w1).mono ?_
        rintro e w2 ⟨rfl, rfl⟩
        rw [Hk.out]
        obtain ⟨x0, x1, x2, x3, x4, x5⟩ := HF.out.below Hb1.out (by omega)
        obtain ⟨y0, y1, y2, y3, y4, y5⟩ := HG2.out.below Hb1.out (by omega)
        obtain ⟨wc, hwc⟩ : ∃ wc, wc = w1.alloc (.cells (two f g) 31) := ⟨_, rfl⟩
        have H8 : Hid (RdM wc wc.heap.size (some ⟨w1.heap.size, 0, none⟩) [f, g]) := by show RdM _ _ _ _; rw [hwc]; exact rd_two (Blk.new _ _ _)
        have Hbc : Hid (Below wb.heap.size wb wc) := by show Below _ _ _; rw [hwc]; exact Hb1.out.alloc hz1 _
        have hzc := Hbc.out.size
        have Hwc := Lib.hid hwc
        clear hwc
        go_wp2_with fail
        rw [← Hwc.out]
        clear x0 x1 x2 x3 x4 x5 y0 y1 y2 y3 y4 y5
        refine (l03Given_any A (some ⟨w1.heap.size, 0, none⟩) n c 2 2 ms [f, g] wc (Rd.more (Rd.below Hx.out Hbc.out) hzc) H8.out Hn.out rfl hb (by decide)).mono ?_
        rintro e w2 ⟨A', c', v, rfl, hr, hv, hb2⟩
        obtain ⟨Av, cv, hvv, _⟩ := hv.form
        subst hvv
        have Hbe := Lib.hid (Hbb.out.trans ((Hbc.out.trans (hb2.mono hzc)).mono Hbb.out.size))
        clear hr hv hb2
        go_wp2_with fail
        go_ret2
        exact ⟨by rw [HR.out, HC.out] <;> rfl, Hbe.out⟩
    · rw [Bool.not_eq_true] at hk
      have hC := cnC_kind hc hk
      have hR := aaR_bad (f := f) (g := g) (kind := kind) (by rw [hC]; decide)
      have HR := Lib.hid hR
      have HC := Lib.hid hC
      have Hc := Lib.hid hc
      have Hk := Lib.hid hk
      clear hR hC hc hk
      go_enter Tryz.func50, Tryz.ntmps50
      go_wp2_with fail
      rw [← Hwb.out]
      refine (l02Given_any A (some ⟨w.heap.size + 2, 0, none⟩) n c 2 2 ms [f, g] wb Hx.out H7.out Hn.out rfl hb (by decide)).mono ?_
      rintro e w1 ⟨rfl, hb1⟩
      rw [Hc.out]
      have Hb1 := Lib.hid hb1
      have hz1 := hb1.size
      clear hb1
      go_wp2_with fail
      refine (l01In_any kind 0 3 w1).mono ?_
      rintro e w2 ⟨rfl, rfl⟩
      rw [Hk.out]
      have Hbe := Lib.hid (Hbb.out.trans (Hb1.out.mono Hbb.out.size))
      go_wp2_with fail
      go_ret2
      exact ⟨by rw [HR.out, HC.out] <;> rfl, Hbe.out⟩
  · have hC := cnC_code (kind := kind) hc
    have hR := aaR_bad (f := f) (g := g) (kind := kind) (by rw [hC]; exact hc)
    have hne : (codeL ms [f, g] != 0) = true := by simpa using hc
    have hne2 : (codeL ms [f, g] == 0) = false := by simpa using hc
    have HR := Lib.hid hR
    have HC := Lib.hid hC
    clear hR hC hc
    go_enter Tryz.func50, Tryz.ntmps50
    go_wp2_with fail
    rw [← Hwb.out]
    refine (l02Given_any A (some ⟨w.heap.size + 2, 0, none⟩) n c 2 2 ms [f, g] wb Hx.out H7.out Hn.out rfl hb (by decide)).mono ?_
    rintro e w1 ⟨rfl, hb1⟩
    have Hbe := Lib.hid (Hbb.out.trans (hb1.mono Hbb.out.size))
    clear hb1
    go_wp2_with fail
    go_ret2
    exact ⟨by rw [HR.out, HC.out] <;> rfl, Hbe.out⟩
set_option maxHeartbeats 2000000 in
theorem ImplAA_any (A : Option Addr) (n c : Nat) (ms : List M) (f g : M) (kind : Int) (w : World) (hx : RdM w w.heap.size A ms) (hn : ms.length = n) (hA : A = none → n = 0 ∧ c = 0) (hb : n < 536870912) :
    Calls Tryz.prog 49 #[.slice A n c, .agg (mc f), .agg (mc g), I kind] w fun e w' => e = .returned (.tuple #[.bool (aaR ms f g kind), I (cnC ms [f, g] kind)]) ∧ Below w.heap.size w w' := by
  obtain ⟨wb, hwb⟩ : ∃ wb, wb = ((w.alloc (.cells (mc f) 31)).alloc (.cells (mc g) 31)).alloc (.cells (two f g) 31) := ⟨_, rfl⟩
  have hbb : Below w.heap.size w wb := by rw [hwb]; exact (((Below.refl _ _).alloc (Nat.le_refl _) _).alloc (by simp) _).alloc (by simp; omega) _
  have h7 : RdM wb wb.heap.size (some ⟨w.heap.size + 2, 0, none⟩) [f, g] := by rw [hwb]; exact rd_two (Blk.new' _ _ _ (by simp))
  have hF : Six wb w.heap.size f := by rw [hwb]; exact Blk.six (((Blk.new w _ _).alloc _).alloc _)
  have hG2 : Six wb (w.heap.size + 1) g := by rw [hwb]; exact Blk.six ((Blk.new' _ _ _ (by simp)).alloc _)
  have hsz : wb.heap.size = w.heap.size + 3 := by rw [hwb]; simp
  have Hx := Lib.hid (Rd.more (Rd.below hx hbb) hbb.size)
  have Hn := Lib.hid hn
  have HA := Lib.hid hA
  have H7 := Lib.hid h7
  have HF := Lib.hid hF
  have HG2 := Lib.hid hG2
  have Hbb := Lib.hid hbb
  have Hwb := Lib.hid hwb
  clear hx hn hA h7 hbb hwb hF hG2
  by_cases hc : codeL ms [f, g] = 0
  · by_cases hk : inR kind 0 3 = true
    · have hC := cnC_mon hc hk
      by_cases hm : monC ms [f, g] = 0
      · obtain ⟨E, ps, hE, hin⟩ := monC_el hm
        have hfE := hin f (by simp)
        have hgE := hin g (by simp)
        have hR : aaR ms f g kind = sameK E kind (ix E f) (ix E g) := by unfold aaR; rw [hC, decide_eq_true hm, Bool.true_and, hE.r]
        rw [hm] at hC
        obtain ⟨x, hxx⟩ : ∃ x, x = ix E f := ⟨_, rfl⟩
        obtain ⟨y, hyy⟩ : ∃ y, y = ix E g := ⟨_, rfl⟩
        have hxl : x < E.length := by rw [hxx]; exact ix_lt hfE
        have hyl : y < E.length := by rw [hyy]; exact ix_lt hgE
        rw [← hxx, ← hyy] at hR
        obtain ⟨t, ht⟩ : ∃ t, t = aaR ms f g kind := ⟨_, rfl⟩
        have Ht : Hid (sameK E kind x y = t) := by show _ = _; rw [ht, hR]
        rw [← ht]
        have Hxx := Lib.hid hxx
        have Hyy := Lib.hid hyy
        have HC := Lib.hid hC
        have HE := Lib.hid hE
        have Hm := Lib.hid hm
        have Hc := Lib.hid hc
        have Hk := Lib.hid hk
        clear hE hR hC hm hc hk hin hxx hyy ht hfE hgE
        go_enter Tryz.func49, Tryz.ntmps49
        go_wp2_with fail
        rw [← Hwb.out]
        refine (listCode_any A (some ⟨w.heap.size + 2, 0, none⟩) n c 2 2 ms [f, g] wb Hx.out H7.out Hn.out rfl HA.out (fun h => by cases h) (by omega)).mono ?_
        rintro e w1 ⟨rfl, hb1⟩
        rw [Hc.out]
        have Hb0 := Lib.hid hb1
        have hz0 := hb1.size
        clear hb1
        go_wp2_with fail
        refine (isKind_any kind w1).mono ?_
        rintro e w2 ⟨rfl, hb2⟩
        rw [Hk.out]
        have Hb1 := Lib.hid (Hb0.out.trans (hb2.mono hz0))
        have hz1 := Hb1.out.size
        clear hb2
        obtain ⟨x0, x1, x2, x3, x4, x5⟩ := HF.out.below Hb1.out (by omega)
        obtain ⟨y0, y1, y2, y3, y4, y5⟩ := HG2.out.below Hb1.out (by omega)
        obtain ⟨wc, hwc⟩ : ∃ wc, wc = w2.alloc (.cells (two f g) 31) := ⟨_, rfl⟩
        have H8 : Hid (RdM wc wc.heap.size (some ⟨w2.heap.size, 0, none⟩) [f, g]) := by show RdM _ _ _ _; rw [hwc]; exact rd_two (Blk.new _ _ _)
        have Hbc : Hid (Below wb.heap.size wb wc) := by show Below _ _ _; rw [hwc]; exact Hb1.out.alloc hz1 _
        have hzc := Hbc.out.size
        have Hwc := Lib.hid hwc
        clear hwc
        go_wp2_with fail
        rw [← Hwc.out]
        clear x0 x1 x2 x3 x4 x5 y0 y1 y2 y3 y4 y5
        refine (monoidOf_any A (some ⟨w2.heap.size, 0, none⟩) n c 2 2 ms [f, g] wc (Rd.more (Rd.below Hx.out Hbc.out) hzc) H8.out Hn.out rfl HA.out (fun h => by cases h) (by omega)).mono ?_
        rintro e w3 ⟨r, v, rfl, hb3, hr0, hs⟩
        obtain ⟨g0, rfl, hM, hv⟩ := hs ps HE.out.clo Hm.out
        rw [← HE.out.eq] at hM hv
        simp only [List.map_cons, List.map_nil] at hv
        rw [← Hxx.out, ← Hyy.out] at hv
        rw [Hm.out]
        obtain ⟨Av, cv, hvv, hrv⟩ := hv.form
        subst hvv
        obtain ⟨bv, ov, e, hbv, _⟩ := RdI.at_ hrv (k := 0) (by simp)
        subst e
        have C0 : Hid (w3.cell? ⟨bv, ov, none⟩ = some (I x)) := RdI.at0 hrv (k := 0) (by simp)
        have C1 : Hid (w3.cell? ⟨bv, ov + 1, none⟩ = some (I y)) := RdI.at0 hrv (k := 1) (by simp)
        have HM := Lib.hid hM
        have Hb3 := Lib.hid (Hbc.out.trans (hb3.mono hzc))
        have hz3 := Hb3.out.size
        clear hM hs hr0 hv hrv hb3
        simp only [List.length_cons, List.length_nil, Nat.zero_add]
        go_wp2_with fail
        refine wp_region_flags [] rfl (by kernel_rfl) (by kernel_rfl) [] (by kernel_rfl) _
          (fun s : Nat => [.pointer (some ⟨g0, 0, none⟩), .pointer (some ⟨s, 0, none⟩), .slice (some ⟨bv, ov, none⟩) 2 cv, .pointer (some ⟨bv, ov, none⟩), I x, .slice (some ⟨bv, ov, none⟩) 2 cv, .pointer (some ⟨bv, ov + 1, none⟩), I y, I kind, .bool t, .bool t, I 0])
          (by intro s; simp only [putAll, List.setIfInBounds_toArray, List.set_cons_succ, List.set_cons_zero]; rfl)
          [] rfl _
          (by intro s; simp only [setAll, List.setIfInBounds_toArray, List.set_cons_succ, List.set_cons_zero]; rfl) (by kernel_rfl)
          (fun d s w' => Below w3.heap.size w3 w' ∧ (d 1 = true → IdeAt w' s E))
          0 ⟨(Below.refl _ _).drew, by simp⟩ ?hop ?hQ
        case hop =>
          refine ⟨?_, ?_, ?_, ?_, ?_, ?_, ?_, ?_, ?_, ?_, ?_, ?_, trivial⟩
          · refine ⟨rfl, Flag.pure (fun _ _ _ h => h) fun d c w' hd hdeps hcl hS => ?_⟩
            skip
            clear hS hdeps hcl hd
            unfold Oper.wp
            go_simp
            exact ⟨rfl, fun t ht => by injection ht with ht; subst ht; rfl, rfl⟩
          · refine ⟨rfl, fun d s w' hd hdeps hcl hS => ?_⟩
            have HS := Lib.hid hS.1
            clear hS hdeps hcl
            unfold Oper.wp
            go_simp
            refine (ideals_any w' ((HM.out.below HS.out (Nat.le_refl _))) HE.out.len HE.out.mnd).mono ?_
            rintro e w4 ⟨q, rfl, hI, hb4⟩
            refine FlagPost.own q 38 (.pointer (some ⟨q, 0, none⟩)) rfl rfl rfl ?_ rfl
            exact ⟨HS.out.trans (hb4.mono HS.out.size), fun _ => hI⟩
          · refine ⟨rfl, Flag.pure (fun _ _ _ h => h) fun d c w' hd hdeps hcl hS => ?_⟩
            skip
            clear hS hdeps hcl hd
            unfold Oper.wp
            go_simp
            exact ⟨rfl, fun t ht => by injection ht with ht; subst ht; rfl, rfl⟩
          · refine ⟨rfl, Flag.pure (fun _ _ _ h => h) fun d c w' hd hdeps hcl hS => ?_⟩
            skip
            clear hS hdeps hcl hd
            unfold Oper.wp
            go_simp
            exact ⟨rfl, fun t ht => by injection ht with ht; subst ht; rfl, rfl⟩
          · refine ⟨rfl, Flag.pure (fun _ _ _ h => h) fun d c w' hd hdeps hcl hS => ?_⟩
            have s0 := (hS.1.cell (p := ⟨bv, ov, none⟩) hbv).trans C0.out
            clear hS hdeps hcl hd
            unfold Oper.wp
            go_simp
            exact ⟨rfl, fun t ht => by injection ht with ht; subst ht; rfl, rfl⟩
          · refine ⟨rfl, Flag.pure (fun _ _ _ h => h) fun d c w' hd hdeps hcl hS => ?_⟩
            skip
            clear hS hdeps hcl hd
            unfold Oper.wp
            go_simp
            exact ⟨rfl, fun t ht => by injection ht with ht; subst ht; rfl, rfl⟩
          · refine ⟨rfl, Flag.pure (fun _ _ _ h => h) fun d c w' hd hdeps hcl hS => ?_⟩
            skip
            clear hS hdeps hcl hd
            unfold Oper.wp
            go_simp
            exact ⟨rfl, fun t ht => by injection ht with ht; subst ht; rfl, rfl⟩
          · refine ⟨rfl, Flag.pure (fun _ _ _ h => h) fun d c w' hd hdeps hcl hS => ?_⟩
            have s0 := (hS.1.cell (p := ⟨bv, ov + 1, none⟩) hbv).trans C1.out
            clear hS hdeps hcl hd
            unfold Oper.wp
            go_simp
            exact ⟨rfl, fun t ht => by injection ht with ht; subst ht; rfl, rfl⟩
          · refine ⟨rfl, Flag.pure (fun _ _ _ h => h) fun d c w' hd hdeps hcl hS => ?_⟩
            skip
            clear hS hdeps hcl hd
            unfold Oper.wp
            go_simp
            exact ⟨rfl, fun t ht => by injection ht with ht; subst ht; rfl, rfl⟩
          · refine ⟨rfl, fun d s w' hd hdeps hcl hS => ?_⟩
            have d1 := hdeps 1 (by kernel_rfl)
            have HI := Lib.hid (hS.2 d1)
            have HS := Lib.hid hS.1
            clear hS hdeps hcl
            unfold Oper.wp
            go_simp
            refine (alike_any w' HI.out HE.out.len HE.out.mnd hxl hyl).mono ?_
            rintro e w4 ⟨rfl, hb4⟩
            rw [Ht.out]
            refine FlagPost.own s 46 (.bool t) rfl rfl rfl ?_ rfl
            exact ⟨HS.out.trans (hb4.mono HS.out.size), fun _ => HI.out.below hb4 (Nat.le_refl _)⟩
          · refine ⟨rfl, Flag.pure (fun _ _ _ h => h) fun d c w' hd hdeps hcl hS => ?_⟩
            skip
            clear hS hdeps hcl hd
            unfold Oper.wp
            go_simp
            exact ⟨rfl, fun t ht => by injection ht with ht; subst ht; rfl, rfl⟩
          · refine ⟨rfl, Flag.pure (fun _ _ _ h => h) fun d c w' hd hdeps hcl hS => ?_⟩
            skip
            clear hS hdeps hcl hd
            unfold Oper.wp
            go_simp
            exact ⟨rfl, fun t ht => by injection ht with ht; subst ht; rfl, rfl⟩
        case hQ =>
          intro fl s we hall hS
          have Hbe := Lib.hid (Hbb.out.trans ((Hb3.out.trans (hS.1.mono hz3)).mono Hbb.out.size))
          clear hall hS
          go_wp2_with fail
          go_ret2
          exact ⟨by rw [HC.out] <;> rfl, Hbe.out⟩
      · have hR := aaR_bad (f := f) (g := g) (kind := kind) (by rw [hC]; exact hm)
        have hne : (monC ms [f, g] != 0) = true := by simpa using hm
        have HR := Lib.hid hR
        have HC := Lib.hid hC
        have Hm := Lib.hid hm
        have Hc := Lib.hid hc
        have Hk := Lib.hid hk
        clear hR hC hm hc hk
        go_enter Tryz.func49, Tryz.ntmps49
        go_wp2_with fail
        rw [← Hwb.out]
        refine (listCode_any A (some ⟨w.heap.size + 2, 0, none⟩) n c 2 2 ms [f, g] wb Hx.out H7.out Hn.out rfl HA.out (fun h => by cases h) (by omega)).mono ?_
        rintro e w1 ⟨rfl, hb1⟩
        rw [Hc.out]
        have Hb0 := Lib.hid hb1
        have hz0 := hb1.size
        clear hb1
        go_wp2_with fail
        refine (isKind_any kind w1).mono ?_
        rintro e w2 ⟨rfl, hb2⟩
        rw [Hk.out]
        have Hb1 := Lib.hid (Hb0.out.trans (hb2.mono hz0))
        have hz1 := Hb1.out.size
        clear hb2
        obtain ⟨x0, x1, x2, x3, x4, x5⟩ := HF.out.below Hb1.out (by omega)
        obtain ⟨y0, y1, y2, y3, y4, y5⟩ := HG2.out.below Hb1.out (by omega)
        obtain ⟨wc, hwc⟩ : ∃ wc, wc = w2.alloc (.cells (two f g) 31) := ⟨_, rfl⟩
        have H8 : Hid (RdM wc wc.heap.size (some ⟨w2.heap.size, 0, none⟩) [f, g]) := by show RdM _ _ _ _; rw [hwc]; exact rd_two (Blk.new _ _ _)
        have Hbc : Hid (Below wb.heap.size wb wc) := by show Below _ _ _; rw [hwc]; exact Hb1.out.alloc hz1 _
        have hzc := Hbc.out.size
        have Hwc := Lib.hid hwc
        clear hwc
        go_wp2_with fail
        rw [← Hwc.out]
        clear x0 x1 x2 x3 x4 x5 y0 y1 y2 y3 y4 y5
        refine (monoidOf_any A (some ⟨w2.heap.size, 0, none⟩) n c 2 2 ms [f, g] wc (Rd.more (Rd.below Hx.out Hbc.out) hzc) H8.out Hn.out rfl HA.out (fun h => by cases h) (by omega)).mono ?_
        rintro e w3 ⟨r, v, rfl, hb3, hr0, hs⟩
        obtain ⟨rfl, rfl⟩ := hr0 Hm.out
        have Hbe := Lib.hid (Hbb.out.trans ((Hbc.out.trans (hb3.mono hzc)).mono Hbb.out.size))
        clear hs hr0 hb3
        go_wp2_with fail
        go_ret2
        exact ⟨by rw [HR.out, HC.out] <;> rfl, Hbe.out⟩
    · rw [Bool.not_eq_true] at hk
      have hC := cnC_kind hc hk
      have hR := aaR_bad (f := f) (g := g) (kind := kind) (by rw [hC]; decide)
      have HR := Lib.hid hR
      have HC := Lib.hid hC
      have Hc := Lib.hid hc
      have Hk := Lib.hid hk
      clear hR hC hc hk
      go_enter Tryz.func49, Tryz.ntmps49
      go_wp2_with fail
      rw [← Hwb.out]
      refine (listCode_any A (some ⟨w.heap.size + 2, 0, none⟩) n c 2 2 ms [f, g] wb Hx.out H7.out Hn.out rfl HA.out (fun h => by cases h) (by omega)).mono ?_
      rintro e w1 ⟨rfl, hb1⟩
      rw [Hc.out]
      have Hb0 := Lib.hid hb1
      have hz0 := hb1.size
      clear hb1
      go_wp2_with fail
      refine (isKind_any kind w1).mono ?_
      rintro e w2 ⟨rfl, hb2⟩
      rw [Hk.out]
      have Hb1 := Lib.hid (Hb0.out.trans (hb2.mono hz0))
      have hz1 := Hb1.out.size
      clear hb2
      have Hbe := Lib.hid (Hbb.out.trans (Hb1.out.mono Hbb.out.size))
      go_wp2_with fail
      go_ret2
      exact ⟨by rw [HR.out, HC.out] <;> rfl, Hbe.out⟩
  · have hC := cnC_code (kind := kind) hc
    have hR := aaR_bad (f := f) (g := g) (kind := kind) (by rw [hC]; exact hc)
    have hne : (codeL ms [f, g] != 0) = true := by simpa using hc
    have HR := Lib.hid hR
    have HC := Lib.hid hC
    clear hR hC hc
    go_enter Tryz.func49, Tryz.ntmps49
    go_wp2_with fail
    rw [← Hwb.out]
    refine (listCode_any A (some ⟨w.heap.size + 2, 0, none⟩) n c 2 2 ms [f, g] wb Hx.out H7.out Hn.out rfl HA.out (fun h => by cases h) (by omega)).mono ?_
    rintro e w1 ⟨rfl, hb1⟩
    have Hbe := Lib.hid (Hbb.out.trans (hb1.mono Hbb.out.size))
    clear hb1
    go_wp2_with fail
    go_ret2
    exact ⟨by rw [HR.out, HC.out] <;> rfl, Hbe.out⟩
end Go.Proofs.YtkbfocoaobiijaaGreat

namespace Go.Proofs.YtkbfocoaobiijaaGreat
open Go.RowKit
set_option maxRecDepth 100000
theorem nm_coarse {same same' : Nat → Nat → Bool} : ∀ {i : Nat}, (∀ a b, a < i → b < i → same a b = true → same' a b = true) → (nm same' i).2 ≤ (nm same i).2
  | 0, _ => by simp [nm]
  | i + 1, h => by
    have ih := nm_coarse (same := same) (same' := same') (i := i) fun a b ha hb => h a b (by omega) (by omega)
    rcases fk_cases (fun k => same' k i) i with ⟨h1, h2, h3⟩ | ⟨h1, h3⟩
    · rw [nm_hit h1 h2 h3]
      rcases fk_cases (fun k => same k i) i with ⟨g1, g2, g3⟩ | ⟨g1, g3⟩
      · rw [nm_hit g1 g2 g3]; exact ih
      · rw [nm_new g3]; simp only; omega
    · have g3 : ∀ j, j < i → same j i = false := fun j hj => by
        have := h3 j hj
        cases e : same j i with
        | false => rfl
        | true => rw [h j i (by omega) (by omega) e] at this; cases this
      rw [nm_new h3, nm_new g3]; simp only; omega
section
variable {E : List M} {n : Int}
theorem sameK_20 {i k : Nat} (h : sameK E 2 i k = true) : sameK E 0 i k = true := by
  rw [sameK_2, decide_eq_true_eq] at h; rw [sameK_0, decide_eq_true_eq]; exact h.1
theorem sameK_21 {i k : Nat} (h : sameK E 2 i k = true) : sameK E 1 i k = true := by
  rw [sameK_2, decide_eq_true_eq] at h; rw [sameK_1, decide_eq_true_eq]; exact h.2
theorem sameK_03 (hm : Mnd n E) {i k : Nat} (hi : i < E.length) (h : sameK E 0 i k = true) : sameK E 3 i k = true := by
  rw [sameK_0, decide_eq_true_eq] at h; rw [sameK_3, decide_eq_true_eq]; exact h.toJ hm (gm_mem hi)
theorem sameK_13 (hm : Mnd n E) {i k : Nat} (hi : i < E.length) (h : sameK E 1 i k = true) : sameK E 3 i k = true := by
  rw [sameK_1, decide_eq_true_eq] at h; rw [sameK_3, decide_eq_true_eq]; exact h.toJ hm (gm_mem hi)
end
theorem rcL_len (E : List M) : ((rcL E).length : Int) = cntK E 3 := by
  have := (cntK_bd E 3).1
  unfold rcL
  rw [List.length_map, List.length_range]
  omega
structure Green (ms : List M) (N : Nat) : Prop where
  c0 : cnC ms [] 0 = 0
  c1 : cnC ms [] 1 = 0
  c2 : cnC ms [] 2 = 0
  c3 : cnC ms [] 3 = 0
  l0 : (cnR ms 0).length = N
  l1 : (cnR ms 1).length = N
  l2 : (cnR ms 2).length = N
  l3 : (cnR ms 3).length = N
  n300 : N ≤ 300
  cc : (ccR ms).length = 4
  r3 : gi (ccR ms) 3 = ((rcR ms).length : Int)
  a0 : gi (ccR ms) 3 ≤ gi (ccR ms) 0
  a1 : gi (ccR ms) 3 ≤ gi (ccR ms) 1
  a2 : gi (ccR ms) 0 ≤ gi (ccR ms) 2
  a3 : gi (ccR ms) 1 ≤ gi (ccR ms) 2
  full : ∀ i k, i < N → k < N → (decide (gi (cnR ms 0) i = gi (cnR ms 0) k) && decide (gi (cnR ms 1) i = gi (cnR ms 1) k)) = decide (gi (cnR ms 2) i = gi (cnR ms 2) k)
  join : ∀ i k, i < N → k < N → (gi (cnR ms 0) i = gi (cnR ms 0) k ∨ gi (cnR ms 1) i = gi (cnR ms 1) k) → gi (cnR ms 3) i = gi (cnR ms 3) k
theorem green {ms : List M} (h : monC ms [] = 0) : ∃ N, Green ms N := by
  obtain ⟨E, ps, hE, _⟩ := monC_el h
  have c : ∀ k : Int, inR k 0 3 = true → cnC ms [] k = 0 := fun k hk => by rw [cnC_mon hE.code hk]; exact h
  have r : ∀ k : Int, inR k 0 3 = true → cnR ms k = clsK E k := fun k hk => by unfold cnR; rw [if_pos (c k hk), hE.r]
  have r0 := r 0 rfl
  have r1 := r 1 rfl
  have r2 := r 2 rfl
  have r3 := r 3 rfl
  have hcc : ccR ms = ccL E 4 := by unfold ccR; rw [if_pos h, hE.r]
  have hcg : ∀ k : Nat, k < 4 → gi (ccR ms) k = cntK E k := fun k hk => by
    rw [hcc, gi_eq (by rw [ccL_len]; exact hk)]; simp [ccL]
  have hrc : rcR ms = rcL E := by unfold rcR; rw [if_pos h, hE.r]
  have hm := hE.mnd
  refine ⟨E.length, c 0 rfl, c 1 rfl, c 2 rfl, c 3 rfl, by rw [r0, clsK_length], by rw [r1, clsK_length], by rw [r2, clsK_length], by rw [r3, clsK_length], hE.len, by rw [hcc, ccL_len], ?_, ?_, ?_, ?_, ?_, ?_, ?_⟩
  · rw [hcg 3 (by omega), hrc, rcL_len]; rfl
  · rw [hcg 3 (by omega), hcg 0 (by omega)]
    exact nm_coarse fun a b ha _ hs => sameK_03 hm ha hs
  · rw [hcg 3 (by omega), hcg 1 (by omega)]
    exact nm_coarse fun a b ha _ hs => sameK_13 hm ha hs
  · rw [hcg 0 (by omega), hcg 2 (by omega)]
    exact nm_coarse fun a b _ _ hs => sameK_20 hs
  · rw [hcg 1 (by omega), hcg 2 (by omega)]
    exact nm_coarse fun a b _ _ hs => sameK_21 hs
  · intro i k hi hk
    rw [r0, r1, r2, full_same hm hi hk, Bool.eq_iff_iff, decide_eq_true_eq]
    exact (clsK_eq hm 2 hi hk).symm
  · intro i k hi hk
    rw [r0, r1, r3, clsK_eq hm 0 hi hk, clsK_eq hm 1 hi hk, clsK_eq hm 3 hi hk]
    rintro (h | h)
    · exact sameK_03 hm hi h
    · exact sameK_13 hm hi h
theorem codeL_comm (ms : List M) (f g : M) : codeL ms [f, g] = codeL ms [g, f] := by
  have h : ∀ p : M → Bool, (ms ++ [f, g]).all p = (ms ++ [g, f]).all p := fun p => by
    simp only [List.all_append, List.all_cons, List.all_nil, Bool.and_true]
    rw [Bool.and_comm (p f)]
  unfold codeL
  rw [h, h]
theorem monC_comm (ms : List M) (f g : M) : monC ms [f, g] = monC ms [g, f] := by
  unfold monC
  rw [codeL_comm]
  split
  · split
    · rfl
    · rename_i ps _
      simp only [List.all_cons, List.all_nil, Bool.and_true]
      rw [Bool.and_comm (decide (f ∈ eltM ps))]
  · rfl
theorem cnC_comm (ms : List M) (f g : M) (kind : Int) : cnC ms [f, g] kind = cnC ms [g, f] kind := by
  unfold cnC; rw [codeL_comm, monC_comm]
theorem elR_comm (ms : List M) (f g : M) : elR ms [f, g] = elR ms [g, f] := by
  unfold elR; rw [codeL_comm]
theorem aaR_comm (ms : List M) (f g : M) (kind : Int) : aaR ms f g kind = aaR ms g f kind := by
  unfold aaR
  rw [cnC_comm, elR_comm]
  congr 1
  rw [Bool.eq_iff_iff]
  exact ⟨sameK_symm kind, sameK_symm kind⟩
end Go.Proofs.YtkbfocoaobiijaaGreat

namespace Go.Proofs.YtkbfocoaobiijaaGreat
open Go.RowKit
set_option maxRecDepth 100000
set_option linter.unusedSimpArgs false
set_option linter.unusedVariables false
def dfl (p : Nat → Bool) (zs : List Int) (k : Nat) : List Int := dst [] (((List.range k).filter p).map (gi zs))
theorem dfl_step (p : Nat → Bool) (zs : List Int) (k : Nat) : dfl p zs (k + 1) = dst (dfl p zs k) (if p k then [gi zs k] else []) := by
  unfold dfl
  rw [List.range_succ, List.filter_append, List.map_append, dst_app]
  cases h : p k <;> simp [h]
theorem dfl_off {p : Nat → Bool} {zs : List Int} {k : Nat} (h : p k = false) : dfl p zs (k + 1) = dfl p zs k := by rw [dfl_step, h]; rfl
theorem dfl_old {p : Nat → Bool} {zs : List Int} {k : Nat} (hm : gi zs k ∈ dfl p zs k) : dfl p zs (k + 1) = dfl p zs k := by
  rw [dfl_step]
  cases p k
  · rfl
  · simp only [if_true, dst, if_pos hm]
theorem dfl_new {p : Nat → Bool} {zs : List Int} {k : Nat} (h : p k = true) (hm : gi zs k ∉ dfl p zs k) : dfl p zs (k + 1) = dfl p zs k ++ [gi zs k] := by
  rw [dfl_step, h]
  simp only [if_true, dst, if_neg hm]
theorem dfl_len (p : Nat → Bool) (zs : List Int) (k : Nat) : (dfl p zs k).length ≤ k := by
  have h := @dst_len [] (((List.range k).filter p).map (gi zs))
  have h2 := List.length_filter_le p (List.range k)
  simp at h h2
  unfold dfl
  omega
theorem different_any (fn : Nat) (caps : Array Value) (p : Nat → Bool) (A : Option Addr) (n c : Nat) (zs : List Int) (w : World) (hx : RdI w w.heap.size A zs) (hn : zs.length = n) (hb : n ≤ 300) (hc : PredC fn caps n p w) :
    Calls Tryz.prog 160 #[.slice A n c, .func (.func fn) #[] caps] w fun e w' => e = .returned (I (dfl p zs n).length) ∧ Below w.heap.size w w' := by
  obtain ⟨eg, hc⟩ := hc
  have Hx := Lib.hid hx
  have Hn := Lib.hid hn
  have Hc := Lib.hid hc
  clear hx hn hc
  go_enter Tryz.func160, Tryz.ntmps160
  go_wp2_with fail
  go_loopw [10, 5] (fun i v wr => ∃ r : Nat, i = .int .i64 r ∧ r ≤ n ∧ Below w.heap.size w wr ∧ OwI 2 wr w.heap.size v (dfl p zs r)) (fun i _ _ => n - (intOf i).toNat)
  case atStart => exact ⟨0, rfl, by omega, Below.refl _ _, OwI.nil_⟩
  case round =>
    obtain ⟨r, rfl, hr, hb', ho⟩ := hrel
    have hdl := dfl_len p zs r
    obtain ⟨Av, cv, hv, _⟩ := ho.form
    subst hv
    have Hb := Lib.hid hb'
    have Ho := Lib.hid ho
    have hsz := hb'.size
    clear hb' ho
    by_cases hrn : r < n
    · have hrz : (r : Int) < (n : Int) := by omega
      obtain ⟨b, off, rfl, hbb, c1⟩ := RdI.at_ (Hx.out.below Hb.out) (k := r) (by rw [Hn.out]; exact hrn)
      go_wp2_with fail
      refine (Hc.out _ Hb.out r hrn).mono ?_
      rintro e w2 ⟨rfl, hb2⟩
      have Hb2 := Lib.hid (Hb.out.trans (hb2.mono hsz))
      have Ho2 := Lib.hid (Ho.out.below hb2 (Nat.le_refl _))
      have hs2 := hb2.size
      clear hb2 Ho Hb c1
      cases hpr : p r
      · have HE : Hid (dfl p zs (r + 1) = dfl p zs r) := dfl_off hpr
        clear hpr
        go_wp2_with fail
        go_roundw
        case rel => exact ⟨r + 1, by go_num, by omega, Hb2.out, by rw [HE.out]; exact Ho2.out⟩
        case measure => simp [intOf]; omega
      · go_wp2_with fail
        refine (contains_any Av (dfl p zs r).length cv (dfl p zs r) (gi zs r) w2 Ho2.out.rdB rfl (by omega)).mono ?_
        rintro e w3 ⟨rfl, rfl⟩
        by_cases hin : gi zs r ∈ dfl p zs r
        · have HE : Hid (dfl p zs (r + 1) = dfl p zs r) := dfl_old hin
          rw [decide_eq_true hin]
          clear hpr hin
          go_wp2_with fail
          go_roundw
          case rel => exact ⟨r + 1, by go_num, by omega, Hb2.out, by rw [HE.out]; exact Ho2.out⟩
          case measure => simp [intOf]; omega
        · have HE : Hid (dfl p zs (r + 1) = dfl p zs r ++ [gi zs r]) := dfl_new hpr hin
          rw [decide_eq_false hin]
          clear hpr hin
          go_wp2_with (at_builtin; refine wpList_pushI rfl (.tmp 24) (.tmp 26) rfl w.heap.size (.slice Av (dfl p zs r).length cv) (dfl p zs r) rfl (Ho2.out.alloc _) w2.heap.size 1 (gi zs r) rfl ((Blk.new _ _ _).cell 0) (by omega) (by simp; omega) (w2.heap.size + 1) (by simp) ?_; intro g' cap w4 ho' hgr hg' hlt'; have Hb4 := Lib.hid ((Ho2.out.alloc (.cells #[I (gi zs r)] 2)).bel (Hb2.out.alloc (by omega) _) hgr (Nat.le_refl _) (by simp; omega)); have Ho4 := Lib.hid ho'; clear ho' hgr hg' hlt')
          go_roundw
          case rel => exact ⟨r + 1, by go_num, by omega, Hb4.out, by rw [HE.out]; exact Ho4.out⟩
          case measure => simp [intOf]; omega
    · obtain rfl : r = n := by omega
      have hrz : ¬ ((r : Int) < (r : Int)) := by omega
      go_wp2_with fail
      go_ret
      exact ⟨rfl, Hb.out⟩
end Go.Proofs.YtkbfocoaobiijaaGreat

namespace Go.Proofs.YtkbfocoaobiijaaGreat
open Go.RowKit
set_option maxRecDepth 100000
set_option linter.unusedSimpArgs false
set_option linter.unusedVariables false
def grL (E : List M) (x : Nat) : List Int := [((rowsOf E x).length : Int), ((colsOf E x).length : Int), (hCnt E x : Int)]
def grR (ms : List M) (f : M) : List Int := if monC ms [f] = 0 then grL (elR ms [f]) (ix (elR ms [f]) f) else []
theorem grR_len (ms : List M) (f : M) : (grR ms f).length ≤ 3 := by unfold grR; split <;> simp [grL]
theorem grR_bad {ms : List M} {f : M} (h : monC ms [f] ≠ 0) : grR ms f = [] := if_neg h
def jP (E : List M) (x : Nat) (i : Nat) : Bool := sameK E 3 i x
def pcnt (p : Nat → Bool) (q : Nat) : Nat := ((List.range q).filter p).length
theorem pcnt_step (p : Nat → Bool) (q : Nat) : pcnt p (q + 1) = pcnt p q + (if p q then 1 else 0) := by
  unfold pcnt
  rw [List.range_succ, List.filter_append, List.length_append]
  cases h : p q <;> simp [h]
theorem pcnt_le (p : Nat → Bool) (q : Nat) : pcnt p q ≤ q := by
  have h2 := List.length_filter_le p (List.range q)
  rw [List.length_range] at h2
  exact h2
theorem Bls.far {w : World} {g n : Nat} {Q : Nat → Bool} (h : Bls w g n Q) {p : Addr} (hne : g ≠ p.block) (v : Value) : Bls (w.setCell p v) g n Q := by
  obtain ⟨cur, hB, h1, h2⟩ := h
  exact ⟨cur, hB.far (p := p) hne v, h1, h2⟩
theorem wp_makeB {w : World} {o : Oper} {a : Act} {K : Act → World → Prop} {Q : Exit → Act → World → Prop} (l c : Operand) (hop : o.op = Op.makeSlice 138 l c) (n : Nat) (hl : a.eval l = I n) (hc : a.eval c = I n) (hn : n < 1073741824)
    (h : ∀ w', Bls w' w.heap.size n (fun _ => false) → w.grownBy w' none → K (a.put o.dst (.slice (some ⟨w.heap.size, 0, none⟩) n n)) w') : o.wp Tryz.prog a w K Q := by
  obtain ⟨i, hi, hz0, hz1, hz2⟩ := info_parts infoB
  obtain ⟨w', hrun, r1, r2⟩ := run_make_full (P := Tryz.prog) w w.heap.size 138 TB i (.bool false) 1 Tryz.underlying138 hi hz0 hz1 .i64 .i64 n (by rw [hz2]; omega) (by unfold maxLen; omega) (Nat.le_refl _)
  unfold Oper.wp
  simp [execOp, hop, hl, hc, hrun, Result.andThen]
  exact h w' (madeB r1) r2
structure S5 (w0 : World) (n : Nat) (b2 b5 : Bool) (s : Nat × Nat) (w : World) : Prop where
  bel : Below w0.heap.size w0 w
  s2 : b2 = true → Bls w s.1 n (fun _ => false) ∧ w0.heap.size ≤ s.1
  s5 : b5 = true → Bls w s.2 n (fun _ => false) ∧ w0.heap.size ≤ s.2
  ne : b2 = true → b5 = true → s.1 ≠ s.2
theorem S5.do2 {w0 w w' : World} {n : Nat} {b5 : Bool} {s : Nat × Nat} (h : S5 w0 n false b5 s w) (hs : Bls w' w.heap.size n (fun _ => false)) (hg : w.grownBy w' none) : S5 w0 n true b5 (w.heap.size, s.2) w' :=
  ⟨h.bel.grown hg h.bel.size (fun k hk => by cases hk), fun _ => ⟨hs, h.bel.size⟩, fun e => ⟨(h.s5 e).1.grown hg (by simp), (h.s5 e).2⟩, fun _ e => by have := (h.s5 e).1.lt; show w.heap.size ≠ s.2; omega⟩
theorem S5.do5 {w0 w w' : World} {n : Nat} {b2 : Bool} {s : Nat × Nat} (h : S5 w0 n b2 false s w) (hs : Bls w' w.heap.size n (fun _ => false)) (hg : w.grownBy w' none) : S5 w0 n b2 true (s.1, w.heap.size) w' :=
  ⟨h.bel.grown hg h.bel.size (fun k hk => by cases hk), fun e => ⟨(h.s2 e).1.grown hg (by simp), (h.s2 e).2⟩, fun _ => ⟨hs, h.bel.size⟩, fun e _ => by have := (h.s2 e).1.lt; show s.1 ≠ w.heap.size; omega⟩
structure GS (w0 w : World) (N gr gc go : Nat) (rs cs : List Int) : Prop where
  bel : Below w0.heap.size w0 w
  r : Bls w gr N fun k => decide ((k : Int) ∈ rs)
  c : Bls w gc N fun k => decide ((k : Int) ∈ cs)
  o : OwI 2 w w0.heap.size (.slice (some ⟨go, 0, none⟩) 3 3) [(rs.length : Int), (cs.length : Int), 0]
  rc : gr ≠ gc
  ro : gr ≠ go
  co : gc ≠ go
  hr : w0.heap.size ≤ gr
  hc : w0.heap.size ≤ gc
section
variable {w0 w w' : World} {N gr gc go : Nat} {rs cs : List Int}
theorem GS.below (h : GS w0 w N gr gc go rs cs) (hb : Below w.heap.size w w') : GS w0 w' N gr gc go rs cs :=
  ⟨h.bel.trans (hb.mono h.bel.size), h.r.below hb h.r.lt, h.c.below hb h.c.lt, h.o.below hb (Nat.le_refl _), h.rc, h.ro, h.co, h.hr, h.hc⟩
theorem GS.ogo (h : GS w0 w N gr gc go rs cs) : w0.heap.size ≤ go := (h.o.lt go rfl).1
theorem GS.row (h : GS w0 w N gr gc go rs cs) {k : Nat} (hk : k < N) {a : Nat} (ha : rs.length = a) {w1 w2 : World} (h1 : w1 = w.setCell ⟨gr, k, none⟩ (.bool true)) (h2 : w2 = w1.setCell ⟨go, 0, none⟩ (I ((a : Int) + 1))) :
    w1.cell? ⟨go, 0, none⟩ = some (I a) ∧ w1.frozen? ⟨go, 0, none⟩ = false ∧ GS w0 w2 N gr gc go (rs ++ [(k : Int)]) cs := by
  have o1 : OwI 2 w1 w0.heap.size (.slice (some ⟨go, 0, none⟩) 3 3) [(rs.length : Int), (cs.length : Int), 0] := by rw [h1]; exact h.o.keep fun g hg => by injection hg with hg; exact Below.heap_setCell w ⟨gr, k, none⟩ _ g (by rw [← hg]; exact fun e => h.ro e.symm)
  obtain ⟨c1, z1, _, _, hst⟩ := OwI.spotAt o1 (k := 0) (by simp)
  have b1 : Below w0.heap.size w0 w1 := by rw [h1]; exact h.bel.setCell (p := ⟨gr, k, none⟩) h.hr _
  refine ⟨by rw [← ha]; exact c1, z1, ?_⟩
  rw [h2]
  have hh := hst ((a : Int) + 1)
  refine ⟨b1.setCell (p := ⟨go, 0, none⟩) h.ogo _, ?_, ?_, by rw [List.length_append, List.length_singleton, ha]; exact hh, h.rc, h.ro, h.co, h.hr, h.hc⟩
  · refine Bls.far (p := ⟨go, 0, none⟩) ?_ h.ro _
    rw [h1]
    refine (h.r.set hk).congr fun i _ => ?_
    rw [Bool.eq_iff_iff]
    simp only [Bool.or_eq_true, decide_eq_true_eq, List.mem_append, List.mem_singleton]
    exact or_congr Iff.rfl (by omega)
  · refine Bls.far (p := ⟨go, 0, none⟩) ?_ h.co _
    rw [h1]
    exact Bls.far (p := ⟨gr, k, none⟩) h.c (fun e => h.rc e.symm) _
theorem GS.col (h : GS w0 w N gr gc go rs cs) {k : Nat} (hk : k < N) {a : Nat} (ha : cs.length = a) {w1 w2 : World} (h1 : w1 = w.setCell ⟨gc, k, none⟩ (.bool true)) (h2 : w2 = w1.setCell ⟨go, 1, none⟩ (I ((a : Int) + 1))) :
    w1.cell? ⟨go, 1, none⟩ = some (I a) ∧ w1.frozen? ⟨go, 1, none⟩ = false ∧ GS w0 w2 N gr gc go rs (cs ++ [(k : Int)]) := by
  have o1 : OwI 2 w1 w0.heap.size (.slice (some ⟨go, 0, none⟩) 3 3) [(rs.length : Int), (cs.length : Int), 0] := by rw [h1]; exact h.o.keep fun g hg => by injection hg with hg; exact Below.heap_setCell w ⟨gc, k, none⟩ _ g (by rw [← hg]; exact fun e => h.co e.symm)
  obtain ⟨c1, z1, _, _, hst⟩ := OwI.spotAt o1 (k := 1) (by simp)
  have b1 : Below w0.heap.size w0 w1 := by rw [h1]; exact h.bel.setCell (p := ⟨gc, k, none⟩) h.hc _
  refine ⟨by rw [← ha]; exact c1, z1, ?_⟩
  rw [h2]
  have hh := hst ((a : Int) + 1)
  refine ⟨b1.setCell (p := ⟨go, 1, none⟩) h.ogo _, ?_, ?_, by rw [List.length_append, List.length_singleton, ha]; exact hh, h.rc, h.ro, h.co, h.hr, h.hc⟩
  · refine Bls.far (p := ⟨go, 1, none⟩) ?_ h.ro _
    rw [h1]
    exact Bls.far (p := ⟨gc, k, none⟩) h.r h.rc _
  · refine Bls.far (p := ⟨go, 1, none⟩) ?_ h.co _
    rw [h1]
    refine (h.c.set hk).congr fun i _ => ?_
    rw [Bool.eq_iff_iff]
    simp only [Bool.or_eq_true, decide_eq_true_eq, List.mem_append, List.mem_singleton]
    exact or_congr Iff.rfl (by omega)
end
set_option maxHeartbeats 4000000 in
theorem SpecGR_any (A : Option Addr) (n c : Nat) (ms : List M) (f : M) (w : World) (hx : RdM w w.heap.size A ms) (hn : ms.length = n) (hb : n < 1073741824) :
    Calls Tryz.prog 43 #[.slice A n c, .agg (mc f)] w (RetSI (grR ms f) (monC ms [f]) w) := by
  obtain ⟨wb, hwb⟩ : ∃ wb, wb = (w.alloc (.cells (mc f) 31)).alloc (.cells (mc f) 31) := ⟨_, rfl⟩
  have hbb : Below w.heap.size w wb := by rw [hwb]; exact ((Below.refl _ _).alloc (Nat.le_refl _) _).alloc (by simp) _
  have h7 : RdM wb wb.heap.size (some ⟨w.heap.size + 1, 0, none⟩) [f] := by rw [hwb]; exact rd_one (Blk.six (Blk.new' _ _ _ (by simp)))
  have Hx := Lib.hid (Rd.more (Rd.below hx hbb) hbb.size)
  have Hn := Lib.hid hn
  have H7 := Lib.hid h7
  have Hbb := Lib.hid hbb
  have Hwb := Lib.hid hwb
  clear hx hn h7 hbb hwb
  by_cases hm : monC ms [f] = 0
  · obtain ⟨E, ps, hE, hin⟩ := monC_el hm
    have hfE := hin f (by simp)
    have hG : gR ms [f] = E := by unfold gR; rw [if_pos hm, hE.r]
    have hNN : gN ms [f] = [(ix E f : Int)] := by unfold gN; rw [if_pos hm, hE.r]; rfl
    have hlen := hE.len
    have hn6 := hE.n6
    obtain ⟨x, hxx⟩ : ∃ x, x = ix E f := ⟨_, rfl⟩
    have hxl : x < E.length := by rw [hxx]; exact ix_lt hfE
    rw [← hxx] at hNN
    have hR : grR ms f = grL E x := by unfold grR; rw [if_pos hm, hE.r, ← hxx]
    obtain ⟨p, hp⟩ : ∃ p, p = jP E x := ⟨_, rfl⟩
    obtain ⟨N, hN⟩ : ∃ N, E.length = N := ⟨_, rfl⟩
    have hpv : ∀ i, i < N → ∀ a b, a = gi (clsK E 3) i → b = gi (clsK E 3) x → (a != b) = !p i := fun i hi a b ha hb => by
      rw [bne]
      congr 1
      rw [Bool.eq_iff_iff, beq_iff_eq, ha, hb, hp]
      exact clsK_eq hE.mnd 3 (by rw [hN]; exact hi) hxl
    have hfin : grL E x = [((dfl p (clsK E 1) N).length : Int), ((dfl p (clsK E 0) N).length : Int), (hCnt E x : Int)] := by rw [hp, ← hN]; rfl
    have hdiv : pcnt p N / ((dfl p (clsK E 1) N).length * (dfl p (clsK E 0) N).length) = hCnt E x := by rw [hp, ← hN]; exact grid_div hE.mnd hxl
    have hp1 : 0 < (dfl p (clsK E 1) N).length := by rw [hp, ← hN]; exact rows_pos hE.mnd hxl
    have hp2 : 0 < (dfl p (clsK E 0) N).length := by rw [hp, ← hN]; exact cols_pos hE.mnd hxl
    rw [hN] at hlen hxl
    have HG := Lib.hid hG
    have HNN := Lib.hid hNN
    have HN := Lib.hid hN
    have HE := Lib.hid hE
    have Hm := Lib.hid hm
    have HR := Lib.hid hR
    have Hpv := Lib.hid hpv
    have Hfin := Lib.hid hfin
    have Hdiv := Lib.hid hdiv
    have Hp1 := Lib.hid hp1
    have Hp2 := Lib.hid hp2
    have hxz : (x : Int) < (N : Int) := by omega
    have hn6' : n ≤ 6 := by rw [← Hn.out]; exact hn6
    clear hE hin hG hNN hxx hp hpv hN hm hfE hn6 hR hfin hdiv hp1 hp2
    go_enter Tryz.func43, Tryz.ntmps43
    go_wp2_with fail
    rw [← Hwb.out]
    refine (l03Given_any A (some ⟨w.heap.size + 1, 0, none⟩) n c 1 1 ms [f] wb Hx.out H7.out Hn.out rfl hb (by decide)).mono ?_
    rintro e w2 ⟨A', c', v, rfl, hr, hv, hb2⟩
    rw [HG.out] at hr ⊢
    rw [HNN.out] at hv
    rw [Hm.out, HN.out]
    obtain ⟨Av, cv, hvv, hrv⟩ := hv.form
    subst hvv
    obtain ⟨bv, ov, e, hbv, _⟩ := RdI.at_ hrv (k := 0) (by simp)
    subst e
    have C0 : Hid (w2.cell? ⟨bv, ov, none⟩ = some (I x)) := RdI.at0 hrv (k := 0) (by simp)
    have Hr := Lib.hid hr
    have Hb2 := Lib.hid hb2
    have hz2 := hb2.size
    simp only [List.length_cons, List.length_nil, Nat.zero_add]
    clear hr hv hrv hb2
    go_wp2_with fail
    refine (l03Kind_any A' N c' E A n c ms 0 rfl w2 Hr.out HN.out (Rd.more (Rd.below Hx.out Hb2.out) hz2) Hn.out hlen hn6' HE.out.mnd HE.out.mem HE.out.G).mono ?_
    rintro e w3 ⟨v, rfl, ho, hb3⟩
    obtain ⟨A3, c3, hv3, hr3⟩ := ho.form
    rw [clsK_length, HN.out] at hv3
    subst hv3
    have Hr0 := Lib.hid hr3
    have Hre3 := Lib.hid (Rd.more (Rd.below Hr.out hb3) hb3.size)
    have Hb3' := Lib.hid hb3
    have Hb3 := Lib.hid (Hb2.out.trans (hb3.mono hz2))
    have hz3 := Hb3.out.size
    have hz23 := hb3.size
    clear ho hr3 hb3 Hr
    go_wp2_with fail
    refine (l03Kind_any A' N c' E A n c ms 1 rfl w3 Hre3.out HN.out (Rd.more (Rd.below Hx.out Hb3.out) hz3) Hn.out hlen hn6' HE.out.mnd HE.out.mem HE.out.G).mono ?_
    rintro e w4 ⟨v, rfl, ho, hb4⟩
    obtain ⟨A4, c4, hv4, hr4⟩ := ho.form
    rw [clsK_length, HN.out] at hv4
    subst hv4
    have Hr0b := Lib.hid (Rd.more (Rd.below Hr0.out hb4) hb4.size)
    have Hr1 := Lib.hid hr4
    have Hre4 := Lib.hid (Rd.more (Rd.below Hre3.out hb4) hb4.size)
    have Hb4' := Lib.hid (Hb3'.out.trans (hb4.mono hz23))
    have Hb4 := Lib.hid (Hb3.out.trans (hb4.mono hz3))
    have hz4 := Hb4.out.size
    have hz24 := Hb4'.out.size
    clear ho hr4 hb4 Hr0 Hre3 Hb3 Hb3'
    go_wp2_with fail
    refine (l03Kind_any A' N c' E A n c ms 3 rfl w4 Hre4.out HN.out (Rd.more (Rd.below Hx.out Hb4.out) hz4) Hn.out hlen hn6' HE.out.mnd HE.out.mem HE.out.G).mono ?_
    rintro e w5 ⟨v, rfl, ho, hb5⟩
    obtain ⟨A5, c5, hv5, hr5⟩ := ho.form
    rw [clsK_length, HN.out] at hv5
    subst hv5
    have HL := Lib.hid (Rd.more (Rd.below Hr0b.out hb5) hb5.size)
    have HRi := Lib.hid (Rd.more (Rd.below Hr1.out hb5) hb5.size)
    have HJ := Lib.hid hr5
    have hb25 := Hb4'.out.trans (hb5.mono hz24)
    have C5 : Hid (w5.cell? ⟨bv, ov, none⟩ = some (I x)) := (hb25.cell (p := ⟨bv, ov, none⟩) hbv).trans C0.out
    have hbv5 : bv < w5.heap.size := Nat.lt_of_lt_of_le hbv hb25.size
    have Hb5 := Lib.hid (Hb4.out.trans (hb5.mono hz4))
    have hz5 := Hb5.out.size
    clear ho hr5 hb5 Hr0b Hr1 Hre4 Hb4 Hb4' hb25 C0
    go_wp2_with fail
    refine wp_region_flags [] rfl (by kernel_rfl) (by kernel_rfl) [] (by kernel_rfl) _
      (fun s : Nat × Nat => [.slice A' N c', I N, .slice (some ⟨s.1, 0, none⟩) N N, .slice A' N c', I N, .slice (some ⟨s.2, 0, none⟩) N N, .slice (some ⟨bv, ov, none⟩) 1 cv, .pointer (some ⟨bv, ov, none⟩), I x, .slice (some ⟨s.1, 0, none⟩) N N, .slice (some ⟨s.2, 0, none⟩) N N, I 0, I x])
      (by intro s; simp only [putAll, List.setIfInBounds_toArray, List.set_cons_succ, List.set_cons_zero]; rfl)
      [] rfl _
      (by intro s; simp only [setAll, List.setIfInBounds_toArray, List.set_cons_succ, List.set_cons_zero]; rfl) (by kernel_rfl)
      (fun d s w' => S5 w5 N (d 2) (d 5) s w')
      (0, 0) ⟨(Below.refl _ _).drew, by simp, by simp, by simp⟩ ?hop ?hQ
    case hop =>
      refine ⟨?_, ?_, ?_, ?_, ?_, ?_, ?_, ?_, ?_, ?_, ?_, ?_, ?_, trivial⟩
      · refine ⟨rfl, Flag.pure (fun _ _ _ h => h) fun d c w' hd hdeps hcl hS => ?_⟩
        skip
        clear hS hdeps hcl hd
        unfold Oper.wp
        go_simp
        exact ⟨rfl, fun t ht => by injection ht with ht; subst ht; rfl, rfl⟩
      · refine ⟨rfl, Flag.pure (fun _ _ _ h => h) fun d c w' hd hdeps hcl hS => ?_⟩
        skip
        clear hS hdeps hcl hd
        unfold Oper.wp
        go_simp
        exact ⟨rfl, fun t ht => by injection ht with ht; subst ht; rfl, rfl⟩
      · refine ⟨rfl, fun d s w' hd hdeps hcl hS => ?_⟩
        have d9 := hcl.down (k := 9) (j := 2) rfl (by kernel_rfl) hd
        have hS : S5 w5 N (d 2) (d 5) s w' := hS
        rw [hd] at hS
        refine wp_makeB (.tmp 39) (.tmp 39) rfl N rfl rfl (by omega) ?_
        intro w6 hs hg
        refine FlagPost.two ((w'.heap.size, s.2) : Nat × Nat) 40 (.slice (some ⟨w'.heap.size, 0, none⟩) N N) 9 _ 12 rfl rfl rfl ?_ rfl rfl rfl (by decide) d9
        show S5 _ _ true (d 5) _ _
        exact hS.do2 hs hg
      · refine ⟨rfl, Flag.pure (fun _ _ _ h => h) fun d c w' hd hdeps hcl hS => ?_⟩
        skip
        clear hS hdeps hcl hd
        unfold Oper.wp
        go_simp
        exact ⟨rfl, fun t ht => by injection ht with ht; subst ht; rfl, rfl⟩
      · refine ⟨rfl, Flag.pure (fun _ _ _ h => h) fun d c w' hd hdeps hcl hS => ?_⟩
        skip
        clear hS hdeps hcl hd
        unfold Oper.wp
        go_simp
        exact ⟨rfl, fun t ht => by injection ht with ht; subst ht; rfl, rfl⟩
      · refine ⟨rfl, fun d s w' hd hdeps hcl hS => ?_⟩
        have d10 := hcl.down (k := 10) (j := 5) rfl (by kernel_rfl) hd
        have hS : S5 w5 N (d 2) (d 5) s w' := hS
        rw [hd] at hS
        refine wp_makeB (.tmp 42) (.tmp 42) rfl N rfl rfl (by omega) ?_
        intro w6 hs hg
        refine FlagPost.two ((s.1, w'.heap.size) : Nat × Nat) 43 (.slice (some ⟨w'.heap.size, 0, none⟩) N N) 10 _ 13 rfl rfl rfl ?_ rfl rfl rfl (by decide) d10
        show S5 _ _ (d 2) true _ _
        exact hS.do5 hs hg
      · refine ⟨rfl, Flag.pure (fun _ _ _ h => h) fun d c w' hd hdeps hcl hS => ?_⟩
        skip
        clear hS hdeps hcl hd
        unfold Oper.wp
        go_simp
        exact ⟨rfl, fun t ht => by injection ht with ht; subst ht; rfl, rfl⟩
      · refine ⟨rfl, Flag.pure (fun _ _ _ h => h) fun d c w' hd hdeps hcl hS => ?_⟩
        skip
        clear hS hdeps hcl hd
        unfold Oper.wp
        go_simp
        exact ⟨rfl, fun t ht => by injection ht with ht; subst ht; rfl, rfl⟩
      · refine ⟨rfl, Flag.pure (fun _ _ _ h => h) fun d c w' hd hdeps hcl hS => ?_⟩
        have s0 := (hS.bel.cell (p := ⟨bv, ov, none⟩) hbv5).trans C5.out
        clear hS hdeps hcl hd
        unfold Oper.wp
        go_simp
        exact ⟨rfl, fun t ht => by injection ht with ht; subst ht; rfl, rfl⟩
      · refine ⟨rfl, Flag.pure (fun _ _ _ h => h) fun d c w' hd hdeps hcl hS => ?_⟩
        skip
        clear hS hdeps hcl hd
        unfold Oper.wp
        go_simp
        exact ⟨rfl, fun t ht => by injection ht with ht; subst ht; rfl, rfl⟩
      · refine ⟨rfl, Flag.pure (fun _ _ _ h => h) fun d c w' hd hdeps hcl hS => ?_⟩
        skip
        clear hS hdeps hcl hd
        unfold Oper.wp
        go_simp
        exact ⟨rfl, fun t ht => by injection ht with ht; subst ht; rfl, rfl⟩
      · refine ⟨rfl, Flag.pure (fun _ _ _ h => h) fun d c w' hd hdeps hcl hS => ?_⟩
        skip
        clear hS hdeps hcl hd
        unfold Oper.wp
        go_simp
        exact ⟨rfl, fun t ht => by injection ht with ht; subst ht; rfl, rfl⟩
      · refine ⟨rfl, Flag.pure (fun _ _ _ h => h) fun d c w' hd hdeps hcl hS => ?_⟩
        skip
        clear hS hdeps hcl hd
        unfold Oper.wp
        go_simp
        exact ⟨rfl, fun t ht => by injection ht with ht; subst ht; rfl, rfl⟩
    case hQ =>
    intro fl s we hall hS
    have hS : S5 w5 N (fl 2) (fl 5) s we := hS
    rw [hall 2 (by decide), hall 5 (by decide)] at hS
    obtain ⟨gr, gc⟩ := s
    have HS := Lib.hid hS
    have hze := hS.bel.size
    clear hall hS
    obtain ⟨go, hgo⟩ : ∃ go, go = we.heap.size := ⟨_, rfl⟩
    obtain ⟨wg, hwg⟩ : ∃ wg, wg = we.alloc (.cells #[I 0, I 0, I 0] 2) := ⟨_, rfl⟩
    have HG0 : Hid (GS w5 wg N gr gc go (dfl p (clsK E 1) 0) (dfl p (clsK E 0) 0)) := by
      have hgr := World.grownBy_alloc we (.cells #[I 0, I 0, I 0] 2) none
      have l1 := (HS.out.s2 rfl).1.lt
      have l2 := (HS.out.s5 rfl).1.lt
      show GS _ _ _ _ _ _ _ _
      rw [hwg, hgo]
      exact ⟨HS.out.bel.alloc hze _, ((HS.out.s2 rfl).1.grown hgr (by simp)).congr (fun _ _ => rfl), ((HS.out.s5 rfl).1.grown hgr (by simp)).congr (fun _ _ => rfl), ⟨rfl, .inr ⟨we.heap.size, 3, #[I 0, I 0, I 0], rfl, hze, Blk.new we _ _, Nat.le_refl _, by simp [maxLen], rfl, rfl⟩⟩, HS.out.ne rfl rfl, by show gr ≠ we.heap.size; exact Nat.ne_of_lt l1, by show gc ≠ we.heap.size; exact Nat.ne_of_lt l2, (HS.out.s2 rfl).2, (HS.out.s5 rfl).2⟩
    have Hwg := Lib.hid hwg
    have Hgo := Lib.hid hgo
    clear hwg hgo
    go_wp2_with fail
    rw [← Hwg.out, ← Hgo.out]
    clear HS
    go_loopw [14, 17] (fun s i wr => ∃ q : Nat, i = .int .i64 q ∧ q ≤ N ∧ s = I (pcnt p q) ∧ GS w5 wr N gr gc go (dfl p (clsK E 1) q) (dfl p (clsK E 0) q)) (fun _ i _ => N - (intOf i).toNat)
    case atStart => exact ⟨0, rfl, by omega, rfl, HG0.out⟩
    case round =>
      clear HG0
      obtain ⟨q, rfl, hq, rfl, hg⟩ := hrel
      have hpl := pcnt_le p q
      have HGr := Lib.hid hg
      clear hg
      by_cases hqN : q < N
      · have hqz : (q : Int) < (N : Int) := by omega
        obtain ⟨a, ha⟩ : ∃ a, a = gi (clsK E 3) q := ⟨_, rfl⟩
        obtain ⟨b, hb5⟩ : ∃ b, b = gi (clsK E 3) x := ⟨_, rfl⟩
        obtain ⟨t, ht⟩ : ∃ t, t = !p q := ⟨_, rfl⟩
        have hab : (a != b) = t := by rw [ht]; exact Hpv.out q hqN a b ha hb5
        obtain ⟨bj, oj, rfl, hbj, _⟩ := RdI.at_ HJ.out (k := q) (by rw [clsK_length, HN.out]; exact hqN)
        have HF4 : Hid (∀ w', Below wr.heap.size wr w' → w'.cell? ⟨bj, oj + q, none⟩ = some (I a) ∧ w'.cell? ⟨bj, oj + x, none⟩ = some (I b)) := fun w' hS => by
          have hB := (HGr.out.below hS).bel
          rw [ha, hb5]
          exact ⟨RdI.at0 (Rd.below HJ.out hB) (by rw [clsK_length, HN.out]; exact hqN), RdI.at0 (Rd.below HJ.out hB) (by rw [clsK_length, HN.out]; exact hxl)⟩
        have Hst := Lib.hid (pcnt_step p q)
        clear ha hb5
        go_wp2_with fail
        refine wp_region_same [] rfl (by kernel_rfl) (by kernel_rfl) (by kernel_rfl) (fun w' => Below wr.heap.size wr w') _
          [.slice (some ⟨bj, oj, none⟩) N c5, I q, .pointer (some ⟨bj, oj + q, none⟩), I a, .slice (some ⟨bj, oj, none⟩) N c5, I x, .pointer (some ⟨bj, oj + x, none⟩), I b, .bool t]
          (by simp only [putAll, List.setIfInBounds_toArray, List.set_cons_succ, List.set_cons_zero]; rfl) (Below.refl _ _).drew ?hop ?hQ
        case hop =>
          refine FixBL.toL (fun w' w'' hS hb => hS.trans (hb.mono hS.size)) _ _ ?_
          refine ⟨.inr ?_, .inr ?_, .inr ?_, .inr ?_, .inr ?_, .inr ?_, .inr ?_, .inr ?_, .inr ?_, trivial⟩
          · (with_reducible refine FixB.of ?_ ?_; rfl; intro w' hS; obtain ⟨s0, s1⟩ := HF4.out _ hS; clear hS; unfold Oper.wp; go_simp; first | done | exact Below.refl _ _)
          · (with_reducible refine FixB.of ?_ ?_; rfl; intro w' hS; obtain ⟨s0, s1⟩ := HF4.out _ hS; clear hS; unfold Oper.wp; go_simp; first | done | exact Below.refl _ _)
          · (with_reducible refine FixB.of ?_ ?_; rfl; intro w' hS; obtain ⟨s0, s1⟩ := HF4.out _ hS; clear hS; unfold Oper.wp; go_simp; first | done | exact Below.refl _ _)
          · (with_reducible refine FixB.of ?_ ?_; rfl; intro w' hS; obtain ⟨s0, s1⟩ := HF4.out _ hS; clear hS; unfold Oper.wp; go_simp; first | done | exact Below.refl _ _)
          · (with_reducible refine FixB.of ?_ ?_; rfl; intro w' hS; obtain ⟨s0, s1⟩ := HF4.out _ hS; clear hS; unfold Oper.wp; go_simp; first | done | exact Below.refl _ _)
          · (with_reducible refine FixB.of ?_ ?_; rfl; intro w' hS; obtain ⟨s0, s1⟩ := HF4.out _ hS; clear hS; unfold Oper.wp; go_simp; first | done | exact Below.refl _ _)
          · (with_reducible refine FixB.of ?_ ?_; rfl; intro w' hS; obtain ⟨s0, s1⟩ := HF4.out _ hS; clear hS; unfold Oper.wp; go_simp; first | done | exact Below.refl _ _)
          · (with_reducible refine FixB.of ?_ ?_; rfl; intro w' hS; obtain ⟨s0, s1⟩ := HF4.out _ hS; clear hS; unfold Oper.wp; go_simp; first | done | exact Below.refl _ _)
          · (with_reducible refine FixB.of ?_ ?_; rfl; intro w' hS; obtain ⟨s0, s1⟩ := HF4.out _ hS; clear hS; unfold Oper.wp; go_simp; first | done | exact Below.refl _ _)
        case hQ =>
        intro wc hS _
        have HB4 := Lib.hid hS
        clear hS
        have HGc := Lib.hid (HGr.out.below HB4.out)
        clear HB4 HF4 hab HGr
        cases t
        · have hpq : p q = true := by simpa using ht.symm
          have Hcnt : Hid (((pcnt p (q + 1) : Nat) : Int) = (pcnt p q : Int) + 1) := by show _ = _; rw [Hst.out, if_pos hpq]; push_cast; rfl
          clear ht
          have v1 := clsK_val E 1 (i := q) (by rw [HN.out]; exact hqN)
          have v0 := clsK_val E 0 (i := q) (by rw [HN.out]; exact hqN)
          have u1 := cntK_bd E 1
          have u0 := cntK_bd E 0
          rw [HN.out] at u1 u0
          obtain ⟨rn, hrn⟩ : ∃ rn : Nat, (rn : Int) = gi (clsK E 1) q := ⟨(gi (clsK E 1) q).toNat, by omega⟩
          obtain ⟨ln, hln⟩ : ∃ ln : Nat, (ln : Int) = gi (clsK E 0) q := ⟨(gi (clsK E 0) q).toNat, by omega⟩
          have hrnN : rn < N := by omega
          have hlnN : ln < N := by omega
          have Hrn := Lib.hid hrn
          have Hln := Lib.hid hln
          obtain ⟨a1, ha1⟩ : ∃ a1, (dfl p (clsK E 1) q).length = a1 := ⟨_, rfl⟩
          obtain ⟨b1, hb1⟩ : ∃ b1, (dfl p (clsK E 0) q).length = b1 := ⟨_, rfl⟩
          have ha1l : a1 ≤ q := by rw [← ha1]; exact dfl_len _ _ _
          have hb1l : b1 ≤ q := by rw [← hb1]; exact dfl_len _ _ _
          have Ha := Lib.hid ha1
          have Hb := Lib.hid hb1
          have hrz : (rn : Int) < (N : Int) := by omega
          have hlz : (ln : Int) < (N : Int) := by omega
          obtain ⟨b4, o4, rfl, hb4, _⟩ := RdI.at_ HRi.out (k := q) (by rw [clsK_length, HN.out]; exact hqN)
          obtain ⟨b3, o3, rfl, hb3, _⟩ := RdI.at_ HL.out (k := q) (by rw [clsK_length, HN.out]; exact hqN)
          have x2 := RdI.at0 (Rd.below HRi.out HGc.out.bel) (k := q) (by rw [clsK_length, HN.out]; exact hqN)
          rw [← Hrn.out] at x2
          have x1 := HGc.out.r.cell hrnN
          have z1 := HGc.out.r.frozen rn
          clear v1 v0 u1 u0 hrn hln ha1 hb1
          by_cases hr : (rn : Int) ∈ dfl p (clsK E 1) q
          · by_cases hc : (ln : Int) ∈ dfl p (clsK E 0) q
            · have HA1 : Hid (dfl p (clsK E 1) (q + 1) = dfl p (clsK E 1) q) := dfl_old (by rw [← Hrn.out]; exact hr)
              rw [decide_eq_true hr] at x1
              have hg2 := HGc.out
              have x3 := RdI.at0 (Rd.below HL.out hg2.bel) (k := q) (by rw [clsK_length, HN.out]; exact hqN)
              rw [← Hln.out] at x3
              have x4 := hg2.c.cell hlnN
              have z4 := hg2.c.frozen ln
              have HA0 : Hid (dfl p (clsK E 0) (q + 1) = dfl p (clsK E 0) q) := dfl_old (by rw [← Hln.out]; exact hc)
              rw [decide_eq_true hc] at x4
              have hg4 := hg2
              rw [← HA1.out] at hg4
              rw [← HA0.out] at hg4
              have Hg4 := Lib.hid hg4
              clear hg2 hg4 hr hc hpq
              go_wp2_with fail
              refine ⟨⟨q + 1, by go_num, by omega, by rw [Hcnt.out], Hg4.out⟩, by simp [intOf]; omega⟩
            · have HA1 : Hid (dfl p (clsK E 1) (q + 1) = dfl p (clsK E 1) q) := dfl_old (by rw [← Hrn.out]; exact hr)
              rw [decide_eq_true hr] at x1
              have hg2 := HGc.out
              have x3 := RdI.at0 (Rd.below HL.out hg2.bel) (k := q) (by rw [clsK_length, HN.out]; exact hqN)
              rw [← Hln.out] at x3
              have x4 := hg2.c.cell hlnN
              have z4 := hg2.c.frozen ln
              have HA0 : Hid (dfl p (clsK E 0) (q + 1) = dfl p (clsK E 0) q ++ [(ln : Int)]) := by show _ = _; rw [dfl_new hpq (by rw [← Hln.out]; exact hc), ← Hln.out]
              rw [decide_eq_false hc] at x4
              obtain ⟨r3, r4, hg4⟩ := GS.col hg2 hlnN Hb.out rfl rfl
              rw [← HA1.out] at hg4
              rw [← HA0.out] at hg4
              have Hg4 := Lib.hid hg4
              clear hg2 hg4 hr hc hpq
              go_wp2_with fail
              refine ⟨⟨q + 1, by go_num, by omega, by rw [Hcnt.out], Hg4.out⟩, by simp [intOf]; omega⟩
          · by_cases hc : (ln : Int) ∈ dfl p (clsK E 0) q
            · have HA1 : Hid (dfl p (clsK E 1) (q + 1) = dfl p (clsK E 1) q ++ [(rn : Int)]) := by show _ = _; rw [dfl_new hpq (by rw [← Hrn.out]; exact hr), ← Hrn.out]
              rw [decide_eq_false hr] at x1
              obtain ⟨r1, r2, hg2⟩ := GS.row HGc.out hrnN Ha.out rfl rfl
              have x3 := RdI.at0 (Rd.below HL.out hg2.bel) (k := q) (by rw [clsK_length, HN.out]; exact hqN)
              rw [← Hln.out] at x3
              have x4 := hg2.c.cell hlnN
              have z4 := hg2.c.frozen ln
              have HA0 : Hid (dfl p (clsK E 0) (q + 1) = dfl p (clsK E 0) q) := dfl_old (by rw [← Hln.out]; exact hc)
              rw [decide_eq_true hc] at x4
              have hg4 := hg2
              rw [← HA1.out] at hg4
              rw [← HA0.out] at hg4
              have Hg4 := Lib.hid hg4
              clear hg2 hg4 hr hc hpq
              go_wp2_with fail
              refine ⟨⟨q + 1, by go_num, by omega, by rw [Hcnt.out], Hg4.out⟩, by simp [intOf]; omega⟩
            · have HA1 : Hid (dfl p (clsK E 1) (q + 1) = dfl p (clsK E 1) q ++ [(rn : Int)]) := by show _ = _; rw [dfl_new hpq (by rw [← Hrn.out]; exact hr), ← Hrn.out]
              rw [decide_eq_false hr] at x1
              obtain ⟨r1, r2, hg2⟩ := GS.row HGc.out hrnN Ha.out rfl rfl
              have x3 := RdI.at0 (Rd.below HL.out hg2.bel) (k := q) (by rw [clsK_length, HN.out]; exact hqN)
              rw [← Hln.out] at x3
              have x4 := hg2.c.cell hlnN
              have z4 := hg2.c.frozen ln
              have HA0 : Hid (dfl p (clsK E 0) (q + 1) = dfl p (clsK E 0) q ++ [(ln : Int)]) := by show _ = _; rw [dfl_new hpq (by rw [← Hln.out]; exact hc), ← Hln.out]
              rw [decide_eq_false hc] at x4
              obtain ⟨r3, r4, hg4⟩ := GS.col hg2 hlnN Hb.out rfl rfl
              rw [← HA1.out] at hg4
              rw [← HA0.out] at hg4
              have Hg4 := Lib.hid hg4
              clear hg2 hg4 hr hc hpq
              go_wp2_with fail
              refine ⟨⟨q + 1, by go_num, by omega, by rw [Hcnt.out], Hg4.out⟩, by simp [intOf]; omega⟩
        · have hpq : p q = false := by simpa using ht.symm
          have Hcnt : Hid (pcnt p (q + 1) = pcnt p q) := by show _ = _; rw [Hst.out, hpq]; first | done | rfl
          have Hg4 : Hid (GS w5 wc N gr gc go (dfl p (clsK E 1) (q + 1)) (dfl p (clsK E 0) (q + 1))) := by show GS _ _ _ _ _ _ _ _; rw [dfl_off hpq, dfl_off hpq]; exact HGc.out
          clear ht hpq
          go_wp2_with fail
          refine ⟨⟨q + 1, by go_num, by omega, by rw [Hcnt.out], Hg4.out⟩, by simp [intOf]; omega⟩
      · obtain rfl : q = N := by omega
        have hqz : ¬ ((q : Int) < (q : Int)) := by omega
        obtain ⟨a1, ha1⟩ : ∃ a1, (dfl p (clsK E 1) q).length = a1 := ⟨_, rfl⟩
        obtain ⟨b1, hb1⟩ : ∃ b1, (dfl p (clsK E 0) q).length = b1 := ⟨_, rfl⟩
        have ha1l : a1 ≤ q := by rw [← ha1]; exact dfl_len _ _ _
        have hb1l : b1 ≤ q := by rw [← hb1]; exact dfl_len _ _ _
        have ha1p : 0 < a1 := by rw [← ha1]; exact Hp1.out
        have hb1p : 0 < b1 := by rw [← hb1]; exact Hp2.out
        have hdv := Hdiv.out
        have hfi := Hfin.out
        rw [ha1, hb1] at hdv hfi
        obtain ⟨m, hmm⟩ : ∃ m, a1 * b1 = m := ⟨_, rfl⟩
        rw [hmm] at hdv
        obtain ⟨h, hh⟩ : ∃ h, hCnt E x = h := ⟨_, rfl⟩
        rw [hh] at hdv hfi
        have hmp : 0 < m := by rw [← hmm]; exact Nat.mul_pos ha1p hb1p
        have hml : m ≤ 90000 := by rw [← hmm]; exact Nat.le_trans (Nat.mul_le_mul ha1l hb1l) (Nat.le_trans (Nat.mul_le_mul hlen hlen) (by decide))
        obtain ⟨s, hs⟩ : ∃ s, pcnt p q = s := ⟨_, rfl⟩
        rw [hs] at hdv hpl ⊢
        have hhl : h ≤ 300 := by rw [← hdv]; exact Nat.le_trans (Nat.div_le_self _ _) (by omega)
        have hw1 : (a1 : Int) * (b1 : Int) = (m : Int) := by rw [← hmm]; push_cast; rfl
        have hq2 : (s : Int) / (m : Int) = (h : Int) := by rw [← hdv]; push_cast; rfl
        have hq1 : (s : Int).tdiv (m : Int) = (h : Int) := by rw [Int.tdiv_eq_ediv_of_nonneg (by omega)]; exact hq2
        have hm0 : ¬ (m = 0) := by omega
        have hwm : IntKind.i64.wrap (m : Int) = m := IntWalk.i64_in _ ⟨by omega, by omega⟩
        have hwh : IntKind.i64.wrap (h : Int) = h := IntWalk.i64_in _ ⟨by omega, by omega⟩
        have Hfi := Lib.hid hfi
        have hoo := HGr.out.o
        rw [ha1, hb1] at hoo
        have Hoo := Lib.hid hoo
        have HF4 : Hid (∀ w', Below wr.heap.size wr w' → w'.cell? ⟨go, 0, none⟩ = some (I a1) ∧ w'.cell? ⟨go, 1, none⟩ = some (I b1)) := fun w' hS =>
          ⟨(OwI.spotAt (hoo.below hS (Nat.le_refl _)) (k := 0) (by simp)).1, (OwI.spotAt (hoo.below hS (Nat.le_refl _)) (k := 1) (by simp)).1⟩
        have Hbg := Lib.hid HGr.out.bel
        have hzg := HGr.out.bel.size
        clear ha1 hb1 ha1p hb1p hdv hfi hmm hh hs hoo HGr Hp1 Hp2 Hdiv Hfin
        go_wp2_with fail
        refine wp_region_last [] rfl (by kernel_rfl) (by kernel_rfl) (by kernel_rfl) (by kernel_rfl) (fun w' => Below wr.heap.size wr w')
          (fun w' => ∃ w3, Below wr.heap.size wr w3 ∧ w' = w3.setCell ⟨go, 2, none⟩ (I h)) _
          [.slice (some ⟨go, 0, none⟩) 3 3, I s, .slice (some ⟨go, 0, none⟩) 3 3, .pointer (some ⟨go, 0, none⟩), I a1, .slice (some ⟨go, 0, none⟩) 3 3, .pointer (some ⟨go, 1, none⟩), I b1, I m, I h, .pointer (some ⟨go, 2, none⟩), undef]
          (by simp only [putAll, List.setIfInBounds_toArray, List.set_cons_succ, List.set_cons_zero]; rfl) (Below.refl _ _).drew 11 _ rfl rfl ?hop ?hst ?hQ
        case hop =>
          refine FixBL.toL (fun w' w'' hS hb => hS.trans (hb.mono hS.size)) _ _ ?_
          refine ⟨.inr ?_, .inr ?_, .inr ?_, .inr ?_, .inr ?_, .inr ?_, .inr ?_, .inr ?_, .inr ?_, .inr ?_, .inr ?_, .inl rfl, trivial⟩
          · (with_reducible refine FixB.of ?_ ?_; rfl; intro w' hS; obtain ⟨s0, s1⟩ := HF4.out _ hS; clear hS; unfold Oper.wp; go_simp; first | done | exact Below.refl _ _)
          · (with_reducible refine FixB.of ?_ ?_; rfl; intro w' hS; obtain ⟨s0, s1⟩ := HF4.out _ hS; clear hS; unfold Oper.wp; go_simp; first | done | exact Below.refl _ _)
          · (with_reducible refine FixB.of ?_ ?_; rfl; intro w' hS; obtain ⟨s0, s1⟩ := HF4.out _ hS; clear hS; unfold Oper.wp; go_simp; first | done | exact Below.refl _ _)
          · (with_reducible refine FixB.of ?_ ?_; rfl; intro w' hS; obtain ⟨s0, s1⟩ := HF4.out _ hS; clear hS; unfold Oper.wp; go_simp; first | done | exact Below.refl _ _)
          · (with_reducible refine FixB.of ?_ ?_; rfl; intro w' hS; obtain ⟨s0, s1⟩ := HF4.out _ hS; clear hS; unfold Oper.wp; go_simp; first | done | exact Below.refl _ _)
          · (with_reducible refine FixB.of ?_ ?_; rfl; intro w' hS; obtain ⟨s0, s1⟩ := HF4.out _ hS; clear hS; unfold Oper.wp; go_simp; first | done | exact Below.refl _ _)
          · (with_reducible refine FixB.of ?_ ?_; rfl; intro w' hS; obtain ⟨s0, s1⟩ := HF4.out _ hS; clear hS; unfold Oper.wp; go_simp; first | done | exact Below.refl _ _)
          · (with_reducible refine FixB.of ?_ ?_; rfl; intro w' hS; obtain ⟨s0, s1⟩ := HF4.out _ hS; clear hS; unfold Oper.wp; go_simp; first | done | exact Below.refl _ _)
          · (with_reducible refine FixB.of ?_ ?_; rfl; intro w' hS; obtain ⟨s0, s1⟩ := HF4.out _ hS; clear hS; unfold Oper.wp; go_simp; first | done | exact Below.refl _ _)
          · (with_reducible refine FixB.of ?_ ?_; rfl; intro w' hS; obtain ⟨s0, s1⟩ := HF4.out _ hS; clear hS; unfold Oper.wp; go_simp; first | done | exact Below.refl _ _)
          · (with_reducible refine FixB.of ?_ ?_; rfl; intro w' hS; obtain ⟨s0, s1⟩ := HF4.out _ hS; clear hS; unfold Oper.wp; go_simp; first | done | exact Below.refl _ _)
        case hst =>
          refine ⟨rfl, fun w' hS => ?_⟩
          obtain ⟨c0, z0, _, _, _⟩ := OwI.spotAt (Hoo.out.below hS (Nat.le_refl _)) (k := 2) (by simp)
          have Hs := Lib.hid hS
          clear hS
          unfold Oper.wp
          go_simp
          exact ⟨w', Hs.out, rfl⟩
        case hQ =>
        rintro w' ⟨w6, hb6, rfl⟩
        obtain ⟨_, _, _, hgo5, hst⟩ := OwI.spotAt (Hoo.out.below hb6 (Nat.le_refl _)) (k := 2) (by simp)
        have Hend := Lib.hid (hst h).rdA
        have Hbe := Lib.hid (Hbb.out.trans ((Hb5.out.trans (((Hbg.out.trans (hb6.mono hzg)).setCell (p := ⟨go, 2, none⟩) hgo5 (I h)).mono hz5)).mono Hbb.out.size))
        clear hb6 hst
        go_wp2_with fail
        go_ret2
        exact .mk (some ⟨go, 0, none⟩) 3 (by rw [HR.out, Hm.out] <;> rfl) (by rw [HR.out, Hfi.out]; exact Hend.out) Hbe.out
  · have hR := grR_bad hm
    have hne : (monC ms [f] != 0) = true := by simpa using hm
    have HR := Lib.hid hR
    clear hR hm
    go_enter Tryz.func43, Tryz.ntmps43
    go_wp2_with fail
    rw [← Hwb.out]
    refine (l03Given_any A (some ⟨w.heap.size + 1, 0, none⟩) n c 1 1 ms [f] wb Hx.out H7.out Hn.out rfl hb (by decide)).mono ?_
    rintro e w2 ⟨A', c', v, rfl, hr, hv, hb2⟩
    obtain ⟨Av, cv, hvv, _⟩ := hv.form
    subst hvv
    have Hbe := Lib.hid (Hbb.out.trans (hb2.mono Hbb.out.size))
    clear hr hv hb2
    go_wp2_with fail
    go_ret2
    exact .mk none 0 (by rw [HR.out] <;> rfl) (by rw [HR.out]; exact Rd.nil_) Hbe.out
end Go.Proofs.YtkbfocoaobiijaaGreat

namespace Go.Proofs.YtkbfocoaobiijaaGreat
open Go.RowKit
set_option maxRecDepth 100000
set_option linter.unusedSimpArgs false
set_option linter.unusedVariables false
theorem PredC.up {fn : Nat} {caps : Array Value} {N : Nat} {p : Nat → Bool} {w w' : World} (h : PredC fn caps N p w) (hb : Below w.heap.size w w') : PredC fn caps N p w' :=
  ⟨h.1, fun w'' hb' => h.2 w'' (hb.trans (hb'.mono hb.size))⟩
structure S7 (w0 : World) (E : List M) (L : List Int) (b1 b5 b10 : Bool) (s : Value × Value × Nat) (w : World) : Prop where
  bel : Below w0.heap.size w0 w
  v1 : b1 = true → OwI 2 w w0.heap.size s.1 (clsK E 1)
  v2 : b5 = true → OwI 2 w w0.heap.size s.2.1 (clsK E 0)
  q : b10 = true → OwI 2 w w0.heap.size (.slice (some ⟨s.2.2, 0, none⟩) 3 3) L
section
variable {w0 w w' : World} {E : List M} {L : List Int} {b1 b5 b10 : Bool} {s : Value × Value × Nat}
theorem S7.below (h : S7 w0 E L b1 b5 b10 s w) (hb : Below w.heap.size w w') : S7 w0 E L b1 b5 b10 s w' :=
  ⟨h.bel.trans (hb.mono h.bel.size), fun e => (h.v1 e).below hb (Nat.le_refl _), fun e => (h.v2 e).below hb (Nat.le_refl _), fun e => (h.q e).below hb (Nat.le_refl _)⟩
theorem S7.do1 (h : S7 w0 E L b1 b5 b10 s w) (hb : Below w.heap.size w w') {v : Value} (hv : OwI 2 w' w.heap.size v (clsK E 1)) : S7 w0 E L true b5 b10 (v, s.2.1, s.2.2) w' :=
  ⟨(h.below hb).bel, fun _ => hv.mono h.bel.size, (h.below hb).v2, (h.below hb).q⟩
theorem S7.do5 (h : S7 w0 E L b1 b5 b10 s w) (hb : Below w.heap.size w w') {v : Value} (hv : OwI 2 w' w.heap.size v (clsK E 0)) : S7 w0 E L b1 true b10 (s.1, v, s.2.2) w' :=
  ⟨(h.below hb).bel, (h.below hb).v1, fun _ => hv.mono h.bel.size, (h.below hb).q⟩
theorem S7.do10 {a b c : Int} (h : S7 w0 E [a, b, c] b1 b5 b10 s w) : S7 w0 E [a, b, c] b1 b5 true (s.1, s.2.1, w.heap.size) (w.alloc (.cells #[I a, I b, I c] 2)) := by
  have hb : Below w.heap.size w (w.alloc (.cells #[I a, I b, I c] 2)) := (Below.refl _ _).alloc (Nat.le_refl _) _
  exact ⟨(h.below hb).bel, (h.below hb).v1, (h.below hb).v2, fun _ => ⟨rfl, .inr ⟨w.heap.size, 3, #[I a, I b, I c], rfl, h.bel.size, Blk.new w _ _, Nat.le_refl _, by simp [maxLen], rfl, rfl⟩⟩⟩
end
set_option maxHeartbeats 2000000 in
theorem ImplGR_any (A : Option Addr) (n c : Nat) (ms : List M) (f : M) (w : World) (hx : RdM w w.heap.size A ms) (hn : ms.length = n) (hA : A = none → n = 0 ∧ c = 0) (hb : n < 536870912) :
    Calls Tryz.prog 42 #[.slice A n c, .agg (mc f)] w (RetI (grR ms f) (monC ms [f]) w) := by
  obtain ⟨wb, hwb⟩ : ∃ wb, wb = (w.alloc (.cells (mc f) 31)).alloc (.cells (mc f) 31) := ⟨_, rfl⟩
  have hbb : Below w.heap.size w wb := by rw [hwb]; exact ((Below.refl _ _).alloc (Nat.le_refl _) _).alloc (by simp) _
  have h7 : RdM wb wb.heap.size (some ⟨w.heap.size + 1, 0, none⟩) [f] := by rw [hwb]; exact rd_one (Blk.six (Blk.new' _ _ _ (by simp)))
  have Hx := Lib.hid (Rd.more (Rd.below hx hbb) hbb.size)
  have Hn := Lib.hid hn
  have HA := Lib.hid hA
  have H7 := Lib.hid h7
  have Hbb := Lib.hid hbb
  have Hwb := Lib.hid hwb
  clear hx hn hA h7 hbb hwb
  by_cases hc : monC ms [f] = 0
  · obtain ⟨E, ps, hE, hin⟩ := monC_el hc
    have hfE := hin f (by simp)
    have hlen := hE.len
    obtain ⟨x, hxx⟩ : ∃ x, x = ix E f := ⟨_, rfl⟩
    have hxl : x < E.length := by rw [hxx]; exact ix_lt hfE
    have hR : grR ms f = grL E x := by unfold grR; rw [if_pos hc, hE.r, ← hxx]
    obtain ⟨a, ha⟩ : ∃ a, a = (dfl (jP E x) (clsK E 1) E.length).length := ⟨_, rfl⟩
    obtain ⟨b, hb5⟩ : ∃ b, b = (dfl (jP E x) (clsK E 0) E.length).length := ⟨_, rfl⟩
    have hfull : (((List.range E.length).filter (hP E x)).map (gm E)).length = hCnt E x := by rw [List.length_map]; rfl
    obtain ⟨h, hh⟩ : ∃ h, hCnt E x = h := ⟨_, rfl⟩
    have hgl : grL E x = [(a : Int), (b : Int), (h : Int)] := by rw [ha, hb5, ← hh]; rfl
    rw [hh] at hfull
    have Hxx := Lib.hid hxx
    have HE := Lib.hid hE
    have Hc := Lib.hid hc
    have HR := Lib.hid hR
    have Ha := Lib.hid ha
    have Hb5 := Lib.hid hb5
    have Hgl := Lib.hid hgl
    have Hfull := Lib.hid hfull
    clear hE hc hR hin hxx hfE ha hb5 hgl hfull hh
    go_enter Tryz.func42, Tryz.ntmps42
    go_wp2_with fail
    rw [← Hwb.out]
    refine (monoidOf_any A (some ⟨w.heap.size + 1, 0, none⟩) n c 1 1 ms [f] wb Hx.out H7.out Hn.out rfl HA.out (fun h => (by cases h)) (by omega)).mono ?_
    rintro e w1 ⟨r, v, rfl, hb1, hr0, hs⟩
    obtain ⟨g0, rfl, hM, hv⟩ := hs ps HE.out.clo Hc.out
    rw [← HE.out.eq] at hM hv
    simp only [List.map_cons, List.map_nil] at hv
    rw [← Hxx.out] at hv
    rw [Hc.out]
    obtain ⟨Av, cv, hvv, hrv⟩ := hv.form
    subst hvv
    obtain ⟨bv, ov, e, hbv, c0⟩ := RdI.at_ hrv (k := 0) (by simp)
    subst e
    rw [Nat.add_zero] at c0
    simp only [List.length_singleton]
    obtain ⟨w2, hw2⟩ : ∃ w2, w2 = w1.alloc (.cells #[.slice (some ⟨bv, ov, none⟩) 1 cv] 108) := ⟨_, rfl⟩
    have hb2 : Below w1.heap.size w1 w2 := by rw [hw2]; exact (Below.refl _ _).alloc (Nat.le_refl _) _
    have C2 : w2.cell? ⟨w1.heap.size, 0, none⟩ = some (.slice (some ⟨bv, ov, none⟩) 1 cv) := by rw [hw2]; exact (Blk.new w1 _ _).cell 0
    have C4 : w2.cell? ⟨bv, ov, none⟩ = some (I x) := (hb2.cell (p := ⟨bv, ov, none⟩) hbv).trans c0
    have HM := Lib.hid (hM.below hb2 (Nat.le_refl _))
    have Hb2 := Lib.hid (hb1.trans (hb2.mono hb1.size))
    have Hw2 := Lib.hid hw2
    have D2 := Lib.hid C2
    have D4 := Lib.hid C4
    clear hM hs hr0 hv hrv hb1 c0 hw2 hb2 C2 C4
    go_wp2_with fail
    rw [← Hw2.out]
    refine (ideals_any w2 HM.out hlen HE.out.mnd).mono ?_
    rintro e w3 ⟨d, rfl, hI, hb3⟩
    obtain ⟨w4, hw4⟩ : ∃ w4, w4 = w3.alloc (.cells #[.pointer (some ⟨d, 0, none⟩)] 127) := ⟨_, rfl⟩
    have hb4 : Below w3.heap.size w3 w4 := by rw [hw4]; exact (Below.refl _ _).alloc (Nat.le_refl _) _
    have hb24 := hb3.trans (hb4.mono hb3.size)
    have C1 : w4.cell? ⟨w3.heap.size, 0, none⟩ = some (.pointer (some ⟨d, 0, none⟩)) := by rw [hw4]; exact (Blk.new w3 _ _).cell 0
    have E2 := (hb24.cell (p := ⟨w1.heap.size, 0, none⟩) (World.block_lt_of_cell? w2 _ D2.out)).trans D2.out
    have E4 := (hb24.cell (p := ⟨bv, ov, none⟩) (World.block_lt_of_cell? w2 _ D4.out)).trans D4.out
    have hI4 := hI.below hb4 (Nat.le_refl _)
    have hM4 := HM.out.below hb24 (Nat.le_refl _)
    have m1 := World.block_lt_of_cell? w4 _ C1
    have m2 := World.block_lt_of_cell? w4 _ E2
    have m4 := World.block_lt_of_cell? w4 _ E4
    have HP : Hid (PredC 159 #[.pointer (some ⟨w3.heap.size, 0, none⟩), .pointer (some ⟨w1.heap.size, 0, none⟩)] E.length (hP E x) w4) :=
      ⟨enters_of Tryz.func159 (by kernel_rfl) rfl, fun w' hb' k hk => gr2_any w' (hI4.below hb' (Nat.le_refl _)) hlen HE.out.mnd hk hxl ((hb'.cell m1).trans C1) ((hb'.cell m2).trans E2) ((hb'.cell m4).trans E4)⟩
    have HJ : Hid (PredC 156 #[.pointer (some ⟨w3.heap.size, 0, none⟩), .pointer (some ⟨w1.heap.size, 0, none⟩)] E.length (jP E x) w4) :=
      ⟨enters_of Tryz.func156 (by kernel_rfl) rfl, fun w' hb' k hk => gr1_any w' (hI4.below hb' (Nat.le_refl _)) hlen HE.out.mnd hk hxl ((hb'.cell m1).trans C1) ((hb'.cell m2).trans E2) ((hb'.cell m4).trans E4)⟩
    have HM4 := Lib.hid hM4
    have HI4 := Lib.hid hI4
    have Hw4 := Lib.hid hw4
    have HC1 := Lib.hid C1
    have Hb4 := Lib.hid (Hb2.out.trans (hb24.mono Hb2.out.size))
    have hpos := HE.out.pos
    clear hI hb3 hb4 hb24 C1 E2 E4 hI4 hM4 m2 m4 hw4
    go_wp2_with fail
    rw [← Hw4.out]
    refine (only_any _ _ _ w4 HM4.out hlen hpos HP.out).mono ?_
    rintro e w5 ⟨v, rfl, ho, hb5⟩
    obtain ⟨A5, c5, hv5, hr5⟩ := ho.form
    rw [Hfull.out] at hv5
    subst hv5
    have HC5 : Hid (w5.cell? ⟨w3.heap.size, 0, none⟩ = some (.pointer (some ⟨d, 0, none⟩))) := (hb5.cell (p := ⟨w3.heap.size, 0, none⟩) m1).trans HC1.out
    have hm5 : w3.heap.size < w5.heap.size := Nat.lt_of_lt_of_le m1 hb5.size
    have HI5 := Lib.hid (HI4.out.below hb5 (Nat.le_refl _))
    have HJ5 := Lib.hid (HJ.out.up hb5)
    have Hb5w := Lib.hid (Hbb.out.trans ((Hb4.out.trans (hb5.mono Hb4.out.size)).mono Hbb.out.size))
    have hz5 := Hb5w.out.size
    obtain ⟨N, hN⟩ : ∃ N, E.length = N := ⟨_, rfl⟩
    have HN := Lib.hid hN
    have hN3 : N ≤ 300 := by rw [← hN]; exact hlen
    clear hb5 hr5 ho hN HI4 HJ HP HM4
    go_wp2_with fail
    refine wp_region_flags [] rfl (by kernel_rfl) (by kernel_rfl) [] (by kernel_rfl) _
      (fun s : Value × Value × Nat => [.pointer (some ⟨d, 0, none⟩), s.1, .func (.func 156) #[] #[.pointer (some ⟨w3.heap.size, 0, none⟩), .pointer (some ⟨w1.heap.size, 0, none⟩)], I a, .pointer (some ⟨d, 0, none⟩), s.2.1, .func (.func 156) #[] #[.pointer (some ⟨w3.heap.size, 0, none⟩), .pointer (some ⟨w1.heap.size, 0, none⟩)], I b, .slice A5 h c5, I h, .slice (some ⟨s.2.2, 0, none⟩) 3 3, .slice (some ⟨s.2.2, 0, none⟩) 3 3, I 0])
      (by intro s; simp only [putAll, List.setIfInBounds_toArray, List.set_cons_succ, List.set_cons_zero]; rfl)
      [] rfl _
      (by intro s; simp only [setAll, List.setIfInBounds_toArray, List.set_cons_succ, List.set_cons_zero]; rfl) (by kernel_rfl)
      (fun d' s w' => S7 w5 E [(a : Int), (b : Int), (h : Int)] (d' 1) (d' 5) (d' 10) s w')
      (undef, undef, 0) ⟨(Below.refl _ _).drew, by simp, by simp, by simp⟩ ?hop ?hQ
    case hop =>
      refine ⟨?_, ?_, ?_, ?_, ?_, ?_, ?_, ?_, ?_, ?_, ?_, ?_, ?_, trivial⟩
      · refine ⟨rfl, Flag.pure (fun _ _ _ h => h) fun d c w' hd hdeps hcl hS => ?_⟩
        have s0 := (hS.bel.cell (p := ⟨w3.heap.size, 0, none⟩) hm5).trans HC5.out
        clear hS hdeps hcl hd
        unfold Oper.wp
        go_simp
        exact ⟨rfl, fun t ht => by injection ht with ht; subst ht; rfl, rfl⟩
      · refine ⟨rfl, fun d' s w' hd hdeps hcl hS => ?_⟩
        have HS := Lib.hid (show S7 w5 E [(a : Int), (b : Int), (h : Int)] (d' 1) (d' 5) (d' 10) s w' from hS)
        clear hS hdeps hcl
        unfold Oper.wp
        go_simp
        refine (classes_any w' (HI5.out.below HS.out.bel (Nat.le_refl _)) hlen HE.out.mnd).mono ?_
        rintro e w6 ⟨v, rfl, ho, hb6⟩
        refine FlagPost.own ((v, s.2.1, s.2.2) : Value × Value × Nat) 30 v rfl rfl rfl ?_ rfl
        exact HS.out.do1 hb6 ho
      · refine ⟨rfl, Flag.pure (fun _ _ _ h => h) fun d c w' hd hdeps hcl hS => ?_⟩
        skip
        clear hS hdeps hcl hd
        unfold Oper.wp
        go_simp
        exact ⟨rfl, fun t ht => by injection ht with ht; subst ht; rfl, rfl⟩
      · refine ⟨rfl, fun d' s w' hd hdeps hcl hS => ?_⟩
        have d1 := hdeps 1 (by kernel_rfl)
        have HS := Lib.hid (show S7 w5 E [(a : Int), (b : Int), (h : Int)] (d' 1) (d' 5) (d' 10) s w' from hS)
        have hv := HS.out.v1 d1
        obtain ⟨s1, s2, s3⟩ := s
        obtain ⟨A7, c7, hv7, hr7⟩ := hv.form
        rw [clsK_length, HN.out] at hv7
        simp only at hv7
        subst hv7
        have Hr7 := Lib.hid hr7
        clear hS hdeps hcl hv hr7
        unfold Oper.wp
        go_simp
        refine (different_any _ _ (jP E x) A7 N c7 (clsK E 1) w' Hr7.out (by rw [clsK_length, HN.out]) hN3 (HN.out ▸ HJ5.out.up HS.out.bel)).mono ?_
        rintro e w6 ⟨rfl, hb6⟩
        rw [← HN.out, ← Ha.out]
        refine FlagPost.own ((.slice A7 E.length c7, s2, s3) : Value × Value × Nat) 32 (I a) rfl rfl rfl ?_ rfl
        rw [HN.out]
        exact HS.out.below hb6
      · refine ⟨rfl, Flag.pure (fun _ _ _ h => h) fun d c w' hd hdeps hcl hS => ?_⟩
        have s0 := (hS.bel.cell (p := ⟨w3.heap.size, 0, none⟩) hm5).trans HC5.out
        clear hS hdeps hcl hd
        unfold Oper.wp
        go_simp
        exact ⟨rfl, fun t ht => by injection ht with ht; subst ht; rfl, rfl⟩
      · refine ⟨rfl, fun d' s w' hd hdeps hcl hS => ?_⟩
        have HS := Lib.hid (show S7 w5 E [(a : Int), (b : Int), (h : Int)] (d' 1) (d' 5) (d' 10) s w' from hS)
        clear hS hdeps hcl
        unfold Oper.wp
        go_simp
        refine (classes_any w' (HI5.out.below HS.out.bel (Nat.le_refl _)) hlen HE.out.mnd).mono ?_
        rintro e w6 ⟨v, rfl, ho, hb6⟩
        refine FlagPost.own ((s.1, v, s.2.2) : Value × Value × Nat) 34 v rfl rfl rfl ?_ rfl
        exact HS.out.do5 hb6 ho
      · refine ⟨rfl, Flag.pure (fun _ _ _ h => h) fun d c w' hd hdeps hcl hS => ?_⟩
        skip
        clear hS hdeps hcl hd
        unfold Oper.wp
        go_simp
        exact ⟨rfl, fun t ht => by injection ht with ht; subst ht; rfl, rfl⟩
      · refine ⟨rfl, fun d' s w' hd hdeps hcl hS => ?_⟩
        have d5 := hdeps 5 (by kernel_rfl)
        have HS := Lib.hid (show S7 w5 E [(a : Int), (b : Int), (h : Int)] (d' 1) (d' 5) (d' 10) s w' from hS)
        have hv := HS.out.v2 d5
        obtain ⟨s1, s2, s3⟩ := s
        obtain ⟨A7, c7, hv7, hr7⟩ := hv.form
        rw [clsK_length, HN.out] at hv7
        simp only at hv7
        subst hv7
        have Hr7 := Lib.hid hr7
        clear hS hdeps hcl hv hr7
        unfold Oper.wp
        go_simp
        refine (different_any _ _ (jP E x) A7 N c7 (clsK E 0) w' Hr7.out (by rw [clsK_length, HN.out]) hN3 (HN.out ▸ HJ5.out.up HS.out.bel)).mono ?_
        rintro e w6 ⟨rfl, hb6⟩
        rw [← HN.out, ← Hb5.out]
        refine FlagPost.own ((s1, .slice A7 E.length c7, s3) : Value × Value × Nat) 36 (I b) rfl rfl rfl ?_ rfl
        rw [HN.out]
        exact HS.out.below hb6
      · refine ⟨rfl, Flag.pure (fun _ _ _ h => h) fun d c w' hd hdeps hcl hS => ?_⟩
        skip
        clear hS hdeps hcl hd
        unfold Oper.wp
        go_simp
        exact ⟨rfl, fun t ht => by injection ht with ht; subst ht; rfl, rfl⟩
      · refine ⟨rfl, Flag.pure (fun _ _ _ h => h) fun d c w' hd hdeps hcl hS => ?_⟩
        skip
        clear hS hdeps hcl hd
        unfold Oper.wp
        go_simp
        exact ⟨rfl, fun t ht => by injection ht with ht; subst ht; rfl, rfl⟩
      · refine ⟨rfl, fun d' s w' hd hdeps hcl hS => ?_⟩
        have d11 := hcl.down (k := 11) (j := 10) rfl (by kernel_rfl) hd
        have HS := Lib.hid (show S7 w5 E [(a : Int), (b : Int), (h : Int)] (d' 1) (d' 5) (d' 10) s w' from hS)
        have hS2 := Lib.hid HS.out.do10
        clear hS hdeps hcl
        unfold Oper.wp
        go_simp
        refine FlagPost.two ((s.1, s.2.1, w'.heap.size) : Value × Value × Nat) 39 (.slice (some ⟨w'.heap.size, 0, none⟩) 3 3) 11 _ 4 rfl rfl rfl ?_ rfl rfl rfl (by decide) d11
        exact hS2.out
      · refine ⟨rfl, Flag.pure (fun _ _ _ h => h) fun d c w' hd hdeps hcl hS => ?_⟩
        skip
        clear hS hdeps hcl hd
        unfold Oper.wp
        go_simp
        exact ⟨rfl, fun t ht => by injection ht with ht; subst ht; rfl, rfl⟩
      · refine ⟨rfl, Flag.pure (fun _ _ _ h => h) fun d c w' hd hdeps hcl hS => ?_⟩
        skip
        clear hS hdeps hcl hd
        unfold Oper.wp
        go_simp
        exact ⟨rfl, fun t ht => by injection ht with ht; subst ht; rfl, rfl⟩
    case hQ =>
    intro fl s we hall hS
    have hS : S7 w5 E [(a : Int), (b : Int), (h : Int)] (fl 1) (fl 5) (fl 10) s we := hS
    rw [hall 10 (by decide)] at hS
    obtain ⟨s1, s2, q⟩ := s
    have Hq := Lib.hid ((hS.q rfl).mono hz5)
    have Hbe := Lib.hid (Hb5w.out.trans (hS.bel.mono hz5))
    clear hall hS
    go_wp2_with fail
    go_ret2
    exact .mk _ (by rw [Hc.out] <;> rfl) (by rw [HR.out, Hgl.out]; exact Hq.out) Hbe.out
  · have hR := grR_bad hc
    have hne : (monC ms [f] != 0) = true := by simpa using hc
    have HR := Lib.hid hR
    clear hR hc
    go_enter Tryz.func42, Tryz.ntmps42
    go_wp2_with fail
    rw [← Hwb.out]
    refine (monoidOf_any A (some ⟨w.heap.size + 1, 0, none⟩) n c 1 1 ms [f] wb Hx.out H7.out Hn.out rfl HA.out (fun h => (by cases h)) (by omega)).mono ?_
    rintro e w1 ⟨r, v, rfl, hb1, hr0, hs⟩
    obtain ⟨rfl, rfl⟩ := hr0 (by simpa using hne)
    have Hb2 := Lib.hid (Hbb.out.trans (hb1.mono Hbb.out.size))
    have Hb3 := Lib.hid (Hb2.out.alloc Hb2.out.size (.cells #[.slice none 0 0] 108))
    clear hb1 hr0 hs
    go_wp2_with fail
    go_ret2
    exact .mk _ rfl (by rw [HR.out]; exact OwI.nil_) Hb3.out
end Go.Proofs.YtkbfocoaobiijaaGreat
