/- The walk of the statement on ImageOf; the list lies below the heap's end. -/
import Derived.Test.YtomhmodpiddedaaD8
import Derived.Test.YtomhmodpiddedaaS1
namespace Go.Proofs.Ytomhmodpiddedaa
open Go.RowKit
set_option maxRecDepth 100000

theorem lawImg (f : M) (A : Option Addr) (n c : Nat) (zs : List Int) (w : World) (hx : RdI w w.heap.size A zs) (hn : zs.length = n) :
    Calls Try.prog 10 #[.agg (mc f), .slice A n c] w fun e w' => e = .returned (.bool true) ∧ Below w.heap.size w w' := by
  have Hn := Lib.hid hn
  have Hx := Lib.hid hx
  clear hn hx
  have HX : Hid (∀ w', Below w.heap.size w w' → RdI w' w'.heap.size A zs) := fun w' hb => Rd.more (Hx.out.below hb) hb.size
  by_cases hs : 1048576 < n
  · go_enter Try.func10, Try.ntmps10
    go_wp2
    go_ret
    exact ⟨rfl, by (repeat (first | with_reducible assumption | with_reducible exact Below.refl _ _ | with_reducible refine Below.setCell ?_ (by first | omega | (simp <;> omega)) _ | with_reducible refine Below.alloc ?_ (by first | omega | (simp <;> omega)) _ | with_reducible refine Below.drew ?_ | with_reducible refine Below.drewN ?_ _))⟩
  · have hb : n < 1073741824 := by omega
    have hlen := imgSR_len f zs
    obtain ⟨xs, hX⟩ : ∃ xs, xs = imgSR f zs := ⟨_, rfl⟩
    rw [← hX] at hlen
    have HR := Lib.hid hX
    clear hX
    go_enter Try.func10, Try.ntmps10
    go_wp2_with fail
    refine (toMap_any _ _).mono ?_
    rintro e w1 ⟨rfl, hb1⟩
    have hl : Below w.heap.size w w1 := Below.trans (by (repeat (first | with_reducible assumption | with_reducible exact Below.refl _ _ | with_reducible refine Below.setCell ?_ (by first | omega | (simp <;> omega)) _ | with_reducible refine Below.alloc ?_ (by first | omega | (simp <;> omega)) _ | with_reducible refine Below.drew ?_ | with_reducible refine Below.drewN ?_ _))) (hb1.mono (by simp))
    have hs1 : Six w1 w.heap.size f := Six.below (Blk.six (Blk.new w _ _)) hb1 (by simp)
    have z1 : w.heap.size < w1.heap.size := hs1.lt
    clear hb1
    go_wp2_with fail
    refine (toI_any A n c zs _ (HX.out _ hl) Hn.out hb).mono ?_
    rintro e w2 ⟨v, rfl, ho, hb1⟩
    obtain ⟨A0, c0, hv, hr0⟩ := ho.form
    rw [Hn.out] at hv
    subst hv
    replace hs1 := hs1.below hb1 hs1.lt
    replace hl := hl.trans (hb1.mono hl.size)
    have z2 := hb1.size
    clear hb1 ho
    go_wp2_with fail
    refine (SpecImg_any f A0 n c0 zs _ hr0 Hn.out hb).mono ?_
    rintro e w3 ⟨v0, rfl, ho0, hb1⟩
    rw [← HR.out] at ho0
    obtain ⟨W0, d0, rfl, hw0⟩ := ho0.form
    replace hs1 := hs1.below hb1 hs1.lt
    replace hl := hl.trans (hb1.mono hl.size)
    have z3 := hb1.size
    clear hb1 ho0 hr0
    go_wp2_with fail
    refine (toI_any A n c zs _ (HX.out _ hl) Hn.out hb).mono ?_
    rintro e w4 ⟨v, rfl, hox, hb1⟩
    obtain ⟨X0, e0, hv, hrx⟩ := hox.form
    rw [Hn.out] at hv
    subst hv
    have Hxl : Hid (∀ g, (Value.slice X0 n e0).ownBlock = some g → g < w4.heap.size) := fun g hg => (hox.lt g hg).2
    replace hs1 := hs1.below hb1 hs1.lt
    replace hl := hl.trans (hb1.mono hl.size)
    replace hw0 := hw0.below hb1
    have z4 := hb1.size
    clear hb1
    go_wp2_with fail
    refine (toMap_any _ _).mono ?_
    rintro e w5 ⟨rfl, hb1⟩
    replace hs1 := hs1.below hb1 hs1.lt
    replace hl := hl.trans (hb1.mono hl.size)
    replace hw0 := hw0.below' hb1 z4
    replace hrx := hrx.below hb1
    replace hox := hox.below hb1 (Nat.le_refl _)
    have z5 := hb1.size
    clear hb1
    go_wp2_with fail
    refine (ImplImg_any f X0 n e0 zs _ (Rd.more hrx z5) Hn.out hb).mono ?_
    rintro e w6 ⟨v1, rfl, hog, hb1⟩
    rw [← HR.out] at hog
    obtain ⟨G0, g0, rfl, hrg⟩ := hog.form
    replace hs1 := hs1.below hb1 hs1.lt
    replace hl := hl.trans (hb1.mono hl.size)
    replace hw0 := hw0.below' hb1 (by omega)
    replace hrx := hrx.below' hb1 z5
    replace hox := hox.below hb1 (Nat.le_refl _)
    have z6 := hb1.size
    clear hb1
    go_wp2_with fail
    refine (eqI_any G0 W0 _ g0 _ d0 xs xs _ rfl rfl hrg (Rd.more hw0 (by omega)) hlen).mono ?_
    rintro e w7 ⟨rfl, hb1⟩
    rw [decide_eq_true rfl]
    replace hs1 := hs1.below hb1 hs1.lt
    replace hl := hl.trans (hb1.mono hl.size)
    replace hw0 := hw0.below' hb1 (by omega)
    replace hrx := hrx.below' hb1 (by omega)
    replace hox := hox.below hb1 (Nat.le_refl _)
    replace hog := hog.below hb1 (Nat.le_refl _)
    have z7 := hb1.size
    clear hb1 hrg
    go_wp2_with fail
    refine (toI_any A n c zs _ (HX.out _ hl) Hn.out hb).mono ?_
    rintro e w8 ⟨v, rfl, ho, hb1⟩
    obtain ⟨Y0, y0, hv, hry⟩ := ho.form
    rw [Hn.out] at hv
    subst hv
    replace hs1 := hs1.below hb1 hs1.lt
    replace hl := hl.trans (hb1.mono hl.size)
    replace hw0 := hw0.below' hb1 (by omega)
    replace hrx := hrx.below' hb1 (by omega)
    replace hox := hox.below hb1 (Nat.le_refl _)
    replace hog := hog.below hb1 (Nat.le_refl _)
    have z8 := hb1.size
    clear hb1 ho
    go_wp2_with fail
    refine (eqI_any X0 Y0 _ e0 _ y0 zs zs _ Hn.out Hn.out (Rd.more hrx (by omega)) hry hb).mono ?_
    rintro e w9 ⟨rfl, hb1⟩
    rw [decide_eq_true rfl]
    replace hs1 := hs1.below hb1 hs1.lt
    replace hl := hl.trans (hb1.mono hl.size)
    replace hw0 := hw0.below' hb1 (by omega)
    replace hox := hox.below hb1 (Nat.le_refl _)
    replace hog := hog.below hb1 (Nat.le_refl _)
    have z9 := hb1.size
    clear hb1 hry hrx
    have Hox := Lib.hid hox
    clear hox
    go_wp2_with fail
    refine (markI_any _ _ zs 1 _ Hox.out (by omega) (by rw [Hn.out]; omega)).mono ?_
    rintro e w10 ⟨rfl, hox', hg⟩
    have hog2 : OwI 2 w10 w5.heap.size (.slice G0 xs.length g0) xs := hog.keep fun g hg' => hg.block g (hog.lt g hg').2 (fun e => by have h1 := (hog.lt g hg').1; have h2 := Hxl.out g e.symm; omega)
    replace hs1 := hs1.grown hg (Hox.out.ne (by omega))
    replace hl := Hox.out.bel hl hg (by omega) (by omega)
    replace hw0 := hw0.grown hg (by omega) (fun k hk => (Hox.out.lt k hk).1)
    have z10 := hg.size
    obtain ⟨_, _, he, hrg⟩ := hog2.form
    injection he with he1 he2 he3
    subst he1 he3
    have hneg : ¬ (1 + (zs.length : Int) < 0) := by omega
    have hnegd : decide (1 + (zs.length : Int) < 0) = false := decide_eq_false hneg
    clear hg hox' hog Hox Hxl he2
    go_wp2_with fail
    refine (eqI_any G0 W0 _ g0 _ d0 xs xs _ rfl rfl hrg (Rd.more hw0 (by omega)) hlen).mono ?_
    rintro e w11 ⟨rfl, hb1⟩
    rw [decide_eq_true rfl]
    replace hs1 := hs1.below hb1 hs1.lt
    replace hl := hl.trans (hb1.mono hl.size)
    replace hw0 := hw0.below' hb1 (by omega)
    have ho1 := hog2.below hb1 (Nat.le_refl _)
    have z11 := hb1.size
    clear hb1 hrg hog2 hneg hnegd
    go_wp2_with fail
    refine (markI_any _ _ xs 1 _ ho1 (by omega) (by omega)).mono ?_
    rintro e w12 ⟨rfl, ho1', hg⟩
    replace hs1 := hs1.grown hg (ho1.ne (by omega))
    replace hl := ho1.bel hl hg (by omega) (by omega)
    replace hw0 := hw0.grown hg (by omega) (fun k hk => by have := ho1.lt k hk; omega)
    have z12 := hg.size
    clear hg ho1
    obtain ⟨_, _, he, hr1⟩ := ho1'.form
    injection he with he1 he2 he3
    subst he1 he3
    clear he2
    go_wp2_with fail
    refine (heldI_any G0 xs.length g0 1 _ hr1 (by omega) (by omega)).mono ?_
    rintro e w13 ⟨rfl, rfl⟩
    go_wp2_with fail
    refine (toMap_any _ _).mono ?_
    rintro e w14 ⟨rfl, hb1⟩
    replace hl := hl.trans (hb1.mono hl.size)
    replace hw0 := hw0.below' hb1 (by omega)
    replace ho1' := ho1'.below hb1 (Nat.le_refl _)
    have z14 := hb1.size
    clear hb1 hr1 hs1
    go_wp2_with fail
    refine (toI_any A n c zs _ (HX.out _ hl) Hn.out hb).mono ?_
    rintro e w15 ⟨v, rfl, ho, hb1⟩
    obtain ⟨Z0, y1, hv, hry⟩ := ho.form
    rw [Hn.out] at hv
    subst hv
    replace hl := hl.trans (hb1.mono hl.size)
    replace hw0 := hw0.below' hb1 (by omega)
    replace ho1' := ho1'.below hb1 (Nat.le_refl _)
    have z15 := hb1.size
    clear hb1 ho
    go_wp2_with fail
    refine (ImplImg_any f Z0 n y1 zs _ hry Hn.out hb).mono ?_
    rintro e w16 ⟨v2, rfl, ho2, hb1⟩
    rw [← HR.out] at ho2
    replace hl := hl.trans (hb1.mono hl.size)
    replace hw0 := hw0.below' hb1 (by omega)
    replace ho1' := ho1'.below hb1 (Nat.le_refl _)
    have z16 := hb1.size
    clear hb1 hry
    obtain ⟨A2, c2, rfl, hr2⟩ := ho2.form
    go_wp2_with fail
    refine (eqI_any A2 W0 _ c2 _ d0 xs xs _ rfl rfl hr2 (Rd.more hw0 (by omega)) hlen).mono ?_
    rintro e w17 ⟨rfl, hb1⟩
    rw [decide_eq_true rfl]
    replace hl := hl.trans (hb1.mono hl.size)
    replace ho1' := ho1'.below hb1 (Nat.le_refl _)
    clear hb1 hr2 hw0
    obtain ⟨_, _, he, hr1⟩ := ho1'.form
    injection he with he1 he2 he3
    subst he1 he3
    clear he2
    go_wp2_with fail
    refine (heldI_any G0 xs.length g0 1 _ hr1 (by omega) (by omega)).mono ?_
    rintro e w18 ⟨rfl, rfl⟩
    go_wp2
    go_ret
    exact ⟨rfl, hl⟩

end Go.Proofs.Ytomhmodpiddedaa
