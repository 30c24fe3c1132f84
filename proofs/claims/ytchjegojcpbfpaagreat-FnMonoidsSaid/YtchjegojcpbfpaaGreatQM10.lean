/- Contracts of the draws of chapter 2; no conditions beyond those that the theorems state. Contract of the draw of a list of maps with a word; no conditions beyond those that the theorem states. -/
import Derived.Test.YtchjegojcpbfpaaGreatQM09
import Derived.Deep.DeepCutAuto
set_option linter.unusedSimpArgs false
set_option linter.unusedVariables false
namespace Go.Proofs.YtchjegojcpbfpaaGreat
open Go.RowKit
set_option maxRecDepth 100000
set_option linter.unusedSimpArgs false
set_option linter.unusedVariables false
structure JG where
  j : Nat
structure SW5 (w0 : World) (s : Nat) (A : Option Addr) (n c : Nat) (zs : List Int) (v5 : Value) (ms : List M) (L8 : List M) (A8 : Option Addr) (b5 b9 : Bool) (o : JG) (w : World) : Prop where
  src : b5 = false → Src w s A n c zs
  bel : Below w0.heap.size w0 w
  hs : w0.heap.size + 1 ≤ s
  res : Blk w w0.heap.size 31 (mc (if b9 then gm L8 o.j else M0))
  lst : OwM 31 w (w0.heap.size + 1) v5 ms
  nb : v5.ownBlock ≠ some s
  rd : b9 = false → RdM w w.heap.size A8 L8
  hj : b5 = true → o.j < L8.length
section
variable {w0 w w' : World} {s : Nat} {A : Option Addr} {n c : Nat} {zs : List Int} {v5 : Value} {ms L8 : List M} {A8 : Option Addr} {b5 b9 : Bool} {o : JG}
theorem SW5.do5 (h : SW5 w0 s A n c zs v5 ms L8 A8 false false o w) (hS : Src w' s A n c zs) (hg : w.grownBy w' (some s)) {j : Nat} (hj : j < L8.length) : SW5 w0 s A n c zs v5 ms L8 A8 true false { o with j := j } w' :=
  have h1 := h.hs
  ⟨by simp, h.bel.trans ((bel_s hg (Nat.le_of_lt (h.src rfl).lt)).mono (by omega)), h.hs, h.res.grown hg (fun e => by injection e with e; omega),
    h.lst.keep (fun q hq => hg.block q (h.lst.lt q hq).2 (fun e => h.nb (by rw [hq]; exact e))), h.nb, fun _ => (h.rd rfl).by_s (h.src rfl) hg, fun _ => hj⟩
theorem SW5.do9 (h : SW5 w0 s A n c zs v5 ms L8 A8 true false o w) : SW5 w0 s A n c zs v5 ms L8 A8 true true o (st6 w w0.heap.size (gm L8 o.j)) :=
  ⟨by simp, below_st6 h.bel (Nat.le_refl _) _, h.hs, h.res.st6 _, h.lst.st6f (h.lst.no (by omega)) _, h.nb, by simp, h.hj⟩
end
set_option maxHeartbeats 2000000 in
theorem l02With_any {A : Option Addr} {n c : Nat} {zs : List Int} (w : World) (hx : RdU w w.heap.size A zs) (hn : zs.length = n) (hb : n < 4611686018427387904) :
    Calls Tryz.prog 75 #[.slice A n c] w (RetD1 w) := by
  have hb0 : Below w.heap.size w (w.alloc (.cells (mc M0) 31)) := (Below.refl _ _).alloc (Nat.le_refl _) _
  have HF := Lib.hid (from_any (A := A) (n := n) (c := c) (w.alloc (.cells (mc M0) 31)) ⟨Rd.more (hx.below hb0).1 (by simp), hx.2⟩ hn hb)
  have H3 := Lib.hid (Blk.new w 31 (mc M0))
  have Hb0 := Lib.hid hb0
  have hz0 : (w.alloc (.cells (mc M0) 31)).heap.size = w.heap.size + 1 := by simp
  have Hz0 := Lib.hid hz0
  clear hx hn hb hb0 hz0
  go_enter Tryz.func75, Tryz.ntmps75
  go_wp2_with fail
  refine HF.out.mono ?_
  rintro e w1 ⟨s, rfl, hs, hS1, hb1⟩
  rw [Hz0.out] at hs hb1
  have HS1 := Lib.hid hS1
  have Hb1 := Lib.hid (Hb0.out.trans (hb1.mono (Nat.le_succ _)))
  have H31 := Lib.hid (H3.out.below hb1 (Nat.lt_succ_self _))
  have Hs := Lib.hid hs
  clear hS1 hb1 HF H3 Hb0
  go_wp2_with fail
  refine (l02Draw_any w1 HS1.out).mono ?_
  rintro e w2 ⟨v, ms, rfl, ho, hp, hS2, hg2⟩
  obtain ⟨A5, c5, rfl, _⟩ := ho.form
  obtain ⟨q5, hq5⟩ : ∃ q5, q5 = ms.length := ⟨_, rfl⟩
  rw [← hq5] at ho ⊢
  have h1 := HS1.out.lt
  have h2 := Hb1.out.size
  have hz1 : w.heap.size + 1 ≤ w1.heap.size := by omega
  have Hb2 := Lib.hid (Hb1.out.trans ((bel_s hg2 (Nat.le_of_lt h1)).mono (by omega)))
  have Ho := Lib.hid (ho.mono hz1)
  have Hne := Lib.hid (show (Value.slice A5 q5 c5).ownBlock ≠ some s from fun e => by have := (ho.lt _ e).1; omega)
  have H32 := Lib.hid (H31.out.grown hg2 (fun e => by injection e with e; omega))
  have HS2 := Lib.hid hS2
  have Hp : Hid (q5 ≤ 7) := by show q5 ≤ 7; rw [hq5]; exact hp
  have Hq5 := Lib.hid hq5
  have hq7 : q5 < 1073741824 := by have := Hp.out; omega
  clear ho hp hS2 hg2 HS1 Hb1 H31 hq5 h1 h2 hz1
  go_wp2_with fail
  refine (SpecElementsOf_any A5 q5 c5 ms w2 Ho.out.rdM Hq5.out.symm hq7).mono ?_
  rintro e w3 ⟨A8, c8, rfl, hr8, hb3⟩
  obtain ⟨L8, hL8⟩ : ∃ L8, L8 = elR ms [] := ⟨_, rfl⟩
  obtain ⟨C, hC⟩ : ∃ C, C = elC ms [] := ⟨_, rfl⟩
  have Hpos : Hid (C = 0 → 0 < L8.length) := fun h => by rw [hL8]; exact elR_pos (by rw [← hC]; exact h)
  rw [← hL8] at hr8 ⊢
  rw [← hC]
  obtain ⟨E, hE⟩ : ∃ E, E = L8.length := ⟨_, rfl⟩
  rw [← hE] at Hpos ⊢
  have HE := Lib.hid hE
  have Hr8 := Lib.hid hr8
  have Hb3 := Lib.hid (Hb2.out.trans (hb3.mono Hb2.out.size))
  have Ho3 := Lib.hid (Ho.out.below hb3 (Nat.le_refl _))
  have H33 := Lib.hid (H32.out.below hb3 H32.out.lt)
  have HS3 := Lib.hid (HS2.out.below hb3)
  clear hL8 hC hr8 hb3 hE Hb2 Ho H32 HS2
  by_cases hC0 : C = 0
  · subst hC0
    have hEp : 0 < E := Hpos.out rfl
    go_wp2_with fail
    refine (next_any 5 w3 HS3.out).mono ?_
    rintro e w4 ⟨r, rfl, _, _, hS4, hg4⟩
    have Hb4 := Lib.hid (Hb3.out.trans ((bel_s hg4 (Nat.le_of_lt HS3.out.lt)).mono (by omega)))
    have Ho4 := Lib.hid (Ho3.out.keep (fun q hq => hg4.block q (Ho3.out.lt q hq).2 (fun e => Hne.out (by rw [hq]; exact e))))
    have H34 := Lib.hid (H33.out.grown hg4 (fun e => by injection e with e; omega))
    have Hr4 := Lib.hid (Hr8.out.by_s HS3.out hg4)
    have HS4 := Lib.hid hS4
    clear hS4 hg4 Hb3 Ho3 H33 HS3 Hr8
    by_cases hr0 : 0 < r
    · obtain ⟨b8, off8, rfl, hb8, _⟩ := RdM.at_ Hr4.out (k := 0) (by rw [← HE.out]; exact hEp)
      go_wp2_with fail
      have HW0 : SW5 w s A n c zs (.slice A5 q5 c5) ms L8 (some ⟨b8, off8, none⟩) false false ⟨0⟩ w4.drew := by
        have hbd : Below w4.heap.size w4 w4.drew := (Below.refl _ _).drew
        exact ⟨fun _ => HS4.out.below hbd, Hb4.out.trans (hbd.mono Hb4.out.size), hs, H34.out.below hbd H34.out.lt, Ho4.out.below hbd (Nat.le_refl _), Hne.out, fun _ => Rd.more (Rd.below Hr4.out hbd) hbd.size, by simp⟩
      clear Hb4 H34 Hr4 HS4
      refine wp_region_flags [] rfl (by kernel_rfl) (by kernel_rfl) [] (by kernel_rfl) _
        (fun o : JG => [.slice A5 q5 c5, .slice (some ⟨b8, off8, none⟩) E c8, .pointer (some ⟨s, 0, none⟩), .slice (some ⟨b8, off8, none⟩) E c8, I E, I o.j, .pointer (some ⟨b8, off8 + o.j * 6, none⟩), .agg (mc (gm L8 o.j)), .slice A5 q5 c5, undef])
        (by intro o; simp only [putAll, List.setIfInBounds_toArray, List.set_cons_succ, List.set_cons_zero]; rfl)
        [] rfl _
        (by intro o; simp only [setAll, List.setIfInBounds_toArray, List.set_cons_succ, List.set_cons_zero]; rfl) (by kernel_rfl)
        (fun d o w' => SW5 w s A n c zs (.slice A5 q5 c5) ms L8 (some ⟨b8, off8, none⟩) (d 5) (d 9) o w')
        ⟨0⟩ HW0 ?hop ?hQ
      case hop =>
        refine ⟨?_, ?_, ?_, ?_, ?_, ?_, ?_, ?_, ?_, ?_, trivial⟩
        · refine ⟨rfl, Flag.pure (fun _ _ _ h => h) fun d c w' hd hdeps hcl hS => ?_⟩
          skip
          clear hS hdeps hcl hd
          unfold Oper.wp
          go_simp
          exact ⟨rfl, fun t ht => by injection ht with ht; subst ht; rfl, rfl⟩
        · refine ⟨rfl, Flag.pure (fun _ _ _ h => h) fun d c w' hd hdeps hcl hS => ?_⟩
          skip
          clear hS hdeps hcl hd
          unfold Oper.wp
          go_simp
          exact ⟨rfl, fun t ht => by injection ht with ht; subst ht; rfl, rfl⟩
        · refine ⟨rfl, Flag.pure (fun _ _ _ h => h) fun d c w' hd hdeps hcl hS => ?_⟩
          skip
          clear hS hdeps hcl hd
          unfold Oper.wp
          go_simp
          exact ⟨rfl, fun t ht => by injection ht with ht; subst ht; rfl, rfl⟩
        · refine ⟨rfl, Flag.pure (fun _ _ _ h => h) fun d c w' hd hdeps hcl hS => ?_⟩
          skip
          clear hS hdeps hcl hd
          unfold Oper.wp
          go_simp
          exact ⟨rfl, fun t ht => by injection ht with ht; subst ht; rfl, rfl⟩
        · refine ⟨rfl, Flag.pure (fun _ _ _ h => h) fun d c w' hd hdeps hcl hS => ?_⟩
          skip
          clear hS hdeps hcl hd
          unfold Oper.wp
          go_simp
          exact ⟨rfl, fun t ht => by injection ht with ht; subst ht; rfl, rfl⟩
        · refine ⟨rfl, fun d o w' hd hdeps hcl hS => ?_⟩
          have hS : SW5 w s A n c zs (.slice A5 q5 c5) ms L8 (some ⟨b8, off8, none⟩) (d 5) (d 9) o w' := hS
          have d6 := hcl.down (k := 6) (j := 5) rfl (by kernel_rfl) hd
          have d7 := hcl.down (k := 7) (j := 6) rfl (by kernel_rfl) d6
          have d9 := hcl.down (k := 9) (j := 7) rfl (by kernel_rfl) d7
          rw [hd, d9] at hS
          have H := Lib.hid hS
          clear hS hdeps hcl
          unfold Oper.wp
          go_simp
          refine (next_any E w' (H.out.src rfl)).mono ?_
          rintro e w6 ⟨r, rfl, hr, _, hS6, hg6⟩
          obtain ⟨hr1, hr2⟩ := hr (by omega)
          obtain ⟨j, hj⟩ : ∃ j : Nat, (j : Int) = r := ⟨r.toNat, by omega⟩
          subst hj
          refine ⟨({ o with j := j } : JG), [(29, I j), (30, .pointer (some ⟨b8, off8 + j * 6, none⟩)), (31, .agg (mc (gm L8 j)))], ⟨rfl, fun t ht => by injection ht with ht; subst ht; rfl⟩, ?_, rfl, ?_⟩
          · show SW5 _ _ _ _ _ _ _ _ _ _ true (d 9) _ _
            rw [d9]
            exact H.out.do5 hS6 hg6 (by have := HE.out; omega)
          · intro p hp
            simp at hp
            rcases hp with rfl | rfl | rfl
            · exact .inl rfl
            · exact .inr ⟨6, _, rfl, rfl, by decide, d6⟩
            · exact .inr ⟨7, _, rfl, rfl, by decide, d7⟩
        · refine ⟨rfl, fun d o w' hd hdeps hcl hS => ?_⟩
          have hS : SW5 w s A n c zs (.slice A5 q5 c5) ms L8 (some ⟨b8, off8, none⟩) (d 5) (d 9) o w' := hS
          have d5 := hdeps 5 (by kernel_rfl)
          have hj := hS.hj d5
          have hjE : (o.j : Int) < (E : Int) := by have := HE.out; omega
          have hj0 : (0 : Int) ≤ (o.j : Int) := by omega
          have H := Lib.hid hS
          clear hS hdeps hcl hd
          unfold Oper.wp
          go_simp
          exact ⟨o, [], ⟨rfl, fun t ht => by injection ht with ht; subst ht; rfl⟩, H.out, rfl, by simp⟩
        · refine ⟨rfl, fun d o w' hd hdeps hcl hS => ?_⟩
          have hS : SW5 w s A n c zs (.slice A5 q5 c5) ms L8 (some ⟨b8, off8, none⟩) (d 5) (d 9) o w' := hS
          have d6 := hdeps 6 (by kernel_rfl)
          have d5 := hcl.up (k := 6) (j := 5) rfl (by kernel_rfl) d6
          have d9 := hcl.down (k := 9) (j := 7) rfl (by kernel_rfl) hd
          obtain ⟨_, _, e, _, c0, c1, c2, c3, c4, c5'⟩ := RdM.at_ (hS.rd d9) (k := o.j) (hS.hj d5)
          injection e with e
          injection e with e3 e4 _
          subst e3 e4
          have H := Lib.hid hS
          obtain ⟨z, hz⟩ : ∃ z, z = gm L8 o.j := ⟨_, rfl⟩
          rw [← hz] at c0 c1 c2 c3 c4 c5'
          have HZ := Lib.hid hz
          clear hS hdeps hcl hd hz
          unfold Oper.wp
          go_simp
          have hz := HZ.out
          subst hz
          exact ⟨o, [], ⟨rfl, fun t ht => by injection ht with ht; subst ht; rfl⟩, H.out, rfl, by simp⟩
        · refine ⟨rfl, Flag.pure (fun _ _ _ h => h) fun d c w' hd hdeps hcl hS => ?_⟩
          skip
          clear hS hdeps hcl hd
          unfold Oper.wp
          go_simp
          exact ⟨rfl, fun t ht => by injection ht with ht; subst ht; rfl, rfl⟩
        · refine ⟨rfl, fun d o w' hd hdeps hcl hS => ?_⟩
          have hS : SW5 w s A n c zs (.slice A5 q5 c5) ms L8 (some ⟨b8, off8, none⟩) (d 5) (d 9) o w' := hS
          have d7 := hdeps 7 (by kernel_rfl)
          have d6 := hcl.up (k := 7) (j := 6) rfl (by kernel_rfl) d7
          have d5 := hcl.up (k := 6) (j := 5) rfl (by kernel_rfl) d6
          rw [hd, d5] at hS
          obtain ⟨x0, x1, x2, x3, x4, x5⟩ := hS.res.six
          obtain ⟨z0, z1, z2, z3, z4, z5⟩ := hS.res.fr6
          have H := Lib.hid hS.do9
          clear hS hdeps hcl
          unfold Oper.wp
          go_simp
          refine ⟨o, [], ⟨rfl, fun t ht => by cases ht⟩, ?_, rfl, by simp⟩
          show SW5 _ _ _ _ _ _ _ _ _ _ (d 5) true _ _
          rw [d5]
          exact H.out
      case hQ =>
      intro fl o we hall hS
      have hS : SW5 w s A n c zs (.slice A5 q5 c5) ms L8 (some ⟨b8, off8, none⟩) (fl 5) (fl 9) o we := hS
      rw [hall 9 (by decide)] at hS
      have k3 := hS.res
      rw [if_pos rfl] at k3
      generalize gm L8 o.j = f at *
      obtain ⟨x0, x1, x2, x3, x4, x5⟩ := k3.six
      have HR : Hid (RetD1 w (.returned (.tuple #[.slice A5 q5 c5, .agg (mc f)])) we) := ⟨A5, q5, c5, ms, f, rfl, Hq5.out, hS.lst.mono (Nat.le_succ _), Hp.out, hS.bel⟩
      clear hS hall k3 HW0
      go_wp2_with fail
      refine bodyPost_ret (v := .tuple #[.slice A5 q5 c5, .agg (mc f)]) ?_ rfl HR.out
      simp [results, Tryz.results75, go_sem, *]
    · clear Hr4
      go_wp2_with fail
      refine (spoil_any w4 HS4.out).mono ?_
      rintro e w9 ⟨f, rfl, _, hS9, hg9⟩
      have hb9 := Hb4.out.trans ((bel_s hg9 (Nat.le_of_lt HS4.out.lt)).mono (by omega))
      have ho9 := Ho4.out.keep (fun q hq => hg9.block q (Ho4.out.lt q hq).2 (fun e => Hne.out (by rw [hq]; exact e)))
      have h39 := H34.out.grown hg9 (fun e => by injection e with e; omega)
      obtain ⟨x0, x1, x2, x3, x4, x5⟩ := h39.six
      obtain ⟨z0, z1, z2, z3, z4, z5⟩ := h39.fr6
      have HR : Hid (RetD1 w (.returned (.tuple #[.slice A5 q5 c5, .agg (mc f)])) (st6 w9 w.heap.size f)) := ⟨A5, q5, c5, ms, f, rfl, Hq5.out, (ho9.st6f (ho9.no (by omega)) f).mono (Nat.le_succ _), Hp.out, below_st6 hb9 (Nat.le_refl _) f⟩
      clear hb9 ho9 h39 hS9 hg9 Hb4 Ho4 H34 HS4
      go_wp2_with fail
      refine bodyPost_ret (v := .tuple #[.slice A5 q5 c5, .agg (mc f)]) ?_ rfl HR.out
      simp [results, Tryz.results75, go_sem, *]
  · have hCf : (C == 0) = false := by simpa using hC0
    clear hC0 Hpos Hr8
    go_wp2_with fail
    refine (spoil_any w3 HS3.out).mono ?_
    rintro e w9 ⟨f, rfl, _, hS9, hg9⟩
    have hb9 := Hb3.out.trans ((bel_s hg9 (Nat.le_of_lt HS3.out.lt)).mono (by omega))
    have ho9 := Ho3.out.keep (fun q hq => hg9.block q (Ho3.out.lt q hq).2 (fun e => Hne.out (by rw [hq]; exact e)))
    have h39 := H33.out.grown hg9 (fun e => by injection e with e; omega)
    obtain ⟨x0, x1, x2, x3, x4, x5⟩ := h39.six
    obtain ⟨z0, z1, z2, z3, z4, z5⟩ := h39.fr6
    have HR : Hid (RetD1 w (.returned (.tuple #[.slice A5 q5 c5, .agg (mc f)])) (st6 w9 w.heap.size f)) := ⟨A5, q5, c5, ms, f, rfl, Hq5.out, (ho9.st6f (ho9.no (by omega)) f).mono (Nat.le_succ _), Hp.out, below_st6 hb9 (Nat.le_refl _) f⟩
    clear hb9 ho9 h39 hS9 hg9 Hb3 Ho3 H33 HS3
    go_wp2_with fail
    refine bodyPost_ret (v := .tuple #[.slice A5 q5 c5, .agg (mc f)]) ?_ rfl HR.out
    simp [results, Tryz.results75, go_sem, *]
theorem SD1.next {w0 w w' : World} {v : Value} {ms : List M} {q5 s : Nat} {f : M} {b3 : Bool} (h : SD1 w0 v ms q5 f b3 w) (hg : w.grownBy w' (some s)) (hs : s < w.heap.size) (h0 : w0.heap.size + 1 ≤ s) (hv : v.ownBlock ≠ some s) (h5 : q5 ≠ s) : SD1 w0 v ms q5 f b3 w' :=
  ⟨h.bel.trans ((bel_s hg (Nat.le_of_lt hs)).mono (by omega)), h.lst.keep (fun q hq => hg.block q (h.lst.lt q hq).2 (fun e => hv (by rw [hq]; exact e))), h.c3.grown hg (fun e => by injection e with e; omega), h.c5.grown hg (fun e => by injection e with e; exact h5 e), h.h5⟩
theorem DrawWordFor_any {A : Option Addr} {n c : Nat} {zs : List Int} (w : World) (hx : RdU w w.heap.size A zs) (hn : zs.length = n) (hb : n < 4611686018427387904) :
    Calls Tryz.prog 32 #[.slice A n c] w (RetD1 w) := by
  have hb0 : Below w.heap.size w (w.alloc (.cells (mc M0) 31)) := (Below.refl _ _).alloc (Nat.le_refl _) _
  have hx1 : RdU (w.alloc (.cells (mc M0) 31)) (w.alloc (.cells (mc M0) 31)).heap.size A zs := RdU.on hx hb0 hb0.size
  have HF := Lib.hid (l02With_any (A := A) (n := n) (c := c) _ hx1 hn hb)
  have H3 := Lib.hid (Blk.new w 31 (mc M0))
  have Hb0 := Lib.hid hb0
  clear hx hn hb hb0 hx1
  go_enter Tryz.func32, Tryz.ntmps32
  go_wp2_with fail
  refine HF.out.mono ?_
  rintro e w2 ⟨A5, q5, c5, ls, f, rfl, hq, ho, hq7, hb2⟩
  have h3 := H3.out.below hb2 H3.out.lt
  have hz := Hb0.out.size
  have hs : (w.alloc (.cells (mc M0) 31)).heap.size = w.heap.size + 1 := by simp
  obtain ⟨x0, x1, x2, x3, x4, x5⟩ := h3.six
  obtain ⟨z0, z1, z2, z3, z4, z5⟩ := h3.fr6
  have HR : Hid (RetD1 w (.returned (.tuple #[.slice A5 q5 c5, .agg (mc f)])) (st6 w2 w.heap.size f)) := ⟨A5, q5, c5, ls, f, rfl, hq, (OwM.st6f ho (ho.no (by omega)) f).mono hz, hq7, below_st6 (Hb0.out.trans (hb2.mono hz)) (Nat.le_refl _) f⟩
  clear hq ho hq7 hb2 h3 hz hs HF H3 Hb0
  go_wp2_with fail
  refine bodyPost_ret (v := .tuple #[.slice A5 q5 c5, .agg (mc f)]) ?_ rfl HR.out
  simp [results, Tryz.results32, go_sem, *]
end Go.Proofs.YtchjegojcpbfpaaGreat

namespace Go.Proofs.YtchjegojcpbfpaaGreat
open Go.RowKit
set_option maxRecDepth 100000
set_option linter.unusedSimpArgs false
set_option linter.unusedVariables false
def RetDW (w : World) (e : Ending) (w' : World) : Prop :=
  ∃ (A : Option Addr) (q c : Nat) (ls : List M) (A2 : Option Addr) (q2 c2 : Nat) (us : List Int), e = .returned (.tuple #[.slice A q c, .slice A2 q2 c2]) ∧ q = ls.length ∧ OwM 31 w' w.heap.size (.slice A q c) ls ∧ q ≤ 7 ∧
    us.length = q2 ∧ OwI 2 w' w.heap.size (.slice A2 q2 c2) us ∧ q2 ≤ 200 ∧ Below w.heap.size w w'
structure SDW (w0 : World) (s : Nat) (A : Option Addr) (n c : Nat) (zs : List Int) (B2 : Nat) (v5 : Value) (ms : List M) (w : World) : Prop where
  src : Src w s A n c zs
  bel : Below w0.heap.size w0 w
  lst : OwM 31 w w0.heap.size v5 ms
  nb : v5.ownBlock ≠ some s
  l2 : ∀ g, v5.ownBlock = some g → g < B2
  s2 : s < B2
  b0 : w0.heap.size ≤ s
  bw : B2 ≤ w.heap.size
section
variable {w0 w w' : World} {s : Nat} {A : Option Addr} {n c : Nat} {zs : List Int} {B2 : Nat} {v5 : Value} {ms : List M}
theorem SDW.next (h : SDW w0 s A n c zs B2 v5 ms w) (hS : Src w' s A n c zs) (hg : w.grownBy w' (some s)) : SDW w0 s A n c zs B2 v5 ms w' :=
  ⟨hS, h.bel.trans ((bel_s hg (Nat.le_of_lt h.src.lt)).mono h.b0), h.lst.keep (fun q hq => hg.block q (h.lst.lt q hq).2 (fun e => h.nb (by rw [hq]; exact e))), h.nb, h.l2, h.s2, h.b0, Nat.le_trans h.bw hg.size⟩
theorem SDW.alloc (h : SDW w0 s A n c zs B2 v5 ms w) (o : Obj) : SDW w0 s A n c zs B2 v5 ms (w.alloc o) :=
  ⟨h.src.alloc o, h.bel.alloc h.bel.size o, h.lst.alloc o, h.nb, h.l2, h.s2, h.b0, by have := h.bw; simp; omega⟩
theorem SDW.row {row : Option Nat} (h : SDW w0 s A n c zs B2 v5 ms w) (hg : w.grownBy w' row) (hr : ∀ g, row = some g → B2 ≤ g) : SDW w0 s A n c zs B2 v5 ms w' :=
  ⟨h.src.grown hg (fun g e => by have := hr g e; have := h.s2; omega), h.bel.grown hg h.bel.size (fun g e => by have := hr g e; have := h.s2; have := h.b0; omega), h.lst.keep (fun q hq => hg.block q (h.lst.lt q hq).2 (fun e => by have := hr q e.symm; have := h.l2 q hq; omega)), h.nb, h.l2, h.s2, h.b0, Nat.le_trans h.bw hg.size⟩
end
theorem DrawMapOfWord_any {A : Option Addr} {n c : Nat} {zs : List Int} (w : World) (hx : RdU w w.heap.size A zs) (hn : zs.length = n) (hb : n < 4611686018427387904) :
    Calls Tryz.prog 42 #[.slice A n c] w (RetDW w) := by
  have HF := Lib.hid (from_any (A := A) (n := n) (c := c) w hx hn hb)
  clear hx hn hb
  go_enter Tryz.func42, Tryz.ntmps42
  go_wp2_with fail
  refine HF.out.mono ?_
  rintro e w1 ⟨s, rfl, hs, hS1, hb1⟩
  have HS1 := Lib.hid hS1
  have Hb1 := Lib.hid hb1
  clear hS1 hb1 HF
  go_wp2_with fail
  refine (l02Draw_any w1 HS1.out).mono ?_
  rintro e w2 ⟨v, ms, rfl, ho, hp, hS2, hg2⟩
  obtain ⟨A5, c5, rfl, _⟩ := ho.form
  have h1 := HS1.out.lt
  have h2 := Hb1.out.size
  have h3 := hS2.lt
  obtain ⟨q, hq⟩ : ∃ q, ms.length = q := ⟨_, rfl⟩
  rw [hq] at ho hp
  have SD : Hid (SDW w s A n c zs w2.heap.size (.slice A5 q c5) ms w2) :=
    ⟨hS2, Hb1.out.trans ((bel_s hg2 (Nat.le_of_lt h1)).mono hs), ho.mono h2, fun e => by have := (ho.lt _ e).1; omega, fun g e => (ho.lt g e).2, h3, hs, Nat.le_refl _⟩
  have Hp := Lib.hid hp
  have Hq := Lib.hid hq
  obtain ⟨B2, hB2⟩ : ∃ B2, w2.heap.size = B2 := ⟨_, rfl⟩
  have SD0 := Lib.hid (SD.out.alloc (.cells #[] 2))
  have O0 : Hid (OwI 2 (w2.alloc (.cells #[] 2)) B2 (.slice (some ⟨w2.heap.size, 0, none⟩) 0 0) []) := OwI.made' rfl (Nat.le_of_eq hB2.symm)
  rw [hB2] at SD0 O0
  rw [hq]
  clear ho hp hS2 hg2 HS1 Hb1 h1 h2 h3 hs hq SD
  go_wp2_with fail
  clear hB2
  refine (next_any 8 _ SD0.out.src).mono ?_
  rintro e w3 ⟨k1, rfl, hk1, _, hS3, hg3⟩
  obtain ⟨k10, k18⟩ := hk1 (by decide)
  have SD3 := Lib.hid (SD0.out.next hS3 hg3)
  have O3 := Lib.hid (O0.out.keep (fun g e => hg3.block g (O0.out.lt g e).2 (fun h => by injection h with h; have := (O0.out.lt g e).1; have := SD0.out.s2; omega)))
  clear hk1 hS3 hg3 SD0 O0
  go_wp2_with fail
  refine (next_any 30 _ SD3.out.src).mono ?_
  rintro e w4 ⟨k2, rfl, hk2, _, hS4, hg4⟩
  obtain ⟨k20, k28⟩ := hk2 (by decide)
  have SD4 := Lib.hid (SD3.out.next hS4 hg4)
  have O4 := Lib.hid (O3.out.keep (fun g e => hg4.block g (O3.out.lt g e).2 (fun h => by injection h with h; have := (O3.out.lt g e).1; have := SD3.out.s2; omega)))
  clear hk2 hS4 hg4 SD3 O3
  go_wp2_with fail
  go_loopw [6, 7] (fun v t wr => ∃ (A' : Option Addr) (c' : Nat) (L : List Int) (k : Int), v = .slice A' L.length c' ∧ t = I k ∧ 0 ≤ k ∧ (L.length : Int) + k ≤ 107 ∧ OwI 2 wr B2 (.slice A' L.length c') L ∧ SDW w s A n c zs B2 (.slice A5 q c5) ms wr) (fun _ t _ => (intOf t).toNat)
  case atStart => exact ⟨_, _, [], k1 + k2 / 29 * 100, rfl, rfl, by omega, by simp; omega, O4.out, SD4.out⟩
  case round =>
    clear SD4 O4 k10 k18 k20 k28
    obtain ⟨A', c', L, k, rfl, rfl, hk0, hkL, ho, hsd⟩ := hrel
    have Ho := Lib.hid ho
    have SDr := Lib.hid hsd
    obtain ⟨m, hm⟩ : ∃ m, L.length = m := ⟨_, rfl⟩
    rw [hm] at ho Ho hkL ⊢
    have Hm := Lib.hid hm
    clear ho hsd hm
    by_cases hk : 0 < k
    · go_wp2_with fail
      refine (next_any q _ SDr.out.src).mono ?_
      rintro e w5 ⟨z, rfl, _, _, hS5, hg5⟩
      have SD5 := Lib.hid (SDr.out.next hS5 hg5)
      have O5 := Lib.hid (Ho.out.keep (fun g e => hg5.block g (Ho.out.lt g e).2 (fun h => by injection h with h; have := (Ho.out.lt g e).1; have := SDr.out.s2; omega)))
      have hz5 := SD5.out.bw
      have hkw : IntKind.i64.wrap (k - 1) = k - 1 := IntWalk.i64_in _ ⟨by omega, by omega⟩
      clear hS5 hg5 SDr Ho
      go_wp2_with (at_builtin; refine wpList_pushI rfl (.tmp 24) (.tmp 29) rfl B2 (.slice A' m c') L rfl (O5.out.alloc _) w5.heap.size 1 z rfl ((Blk.new _ _ _).cell 0) (by rw [Hm.out]; omega) (by simp; omega) (w5.heap.size + 1) (by simp) ?_; intro g' cap w9 ho' hgr hg' hlt'; have Ho9 := Lib.hid ho'; have SD9 := Lib.hid ((SD5.out.alloc (.cells #[I z] 2)).row hgr (fun g e => (O5.out.lt g e).1)); clear ho' hgr hg' hlt')
      go_roundw
      case rel => exact ⟨some ⟨g', 0, none⟩, cap, L ++ [z], k - 1, by simp, rfl, by omega, by simp; have := Hm.out; omega, by simpa using Ho9.out, SD9.out⟩
      case measure => simp [intOf]; omega
    · go_wp2_with fail
      refine (next_any 20 _ SDr.out.src).mono ?_
      rintro e w5 ⟨r, rfl, _, _, hS5, hg5⟩
      have SD5 := Lib.hid (SDr.out.next hS5 hg5)
      have O5 := Lib.hid (Ho.out.keep (fun g e => hg5.block g (Ho.out.lt g e).2 (fun h => by injection h with h; have := (Ho.out.lt g e).1; have := SDr.out.s2; omega)))
      clear hS5 hg5 SDr Ho
      by_cases r0 : r = 0
      · subst r0
        have S7 := Lib.hid (SD5.out.alloc (.cells (cI [-1, 6]).toArray 2))
        have O7 := Lib.hid (O5.out.alloc (.cells (cI [-1, 6]).toArray 2))
        have hL := OwI.lit (e := 2) w5 [-1, 6] rfl (by decide) SD5.out.src.lt
        have HL := Lib.hid hL
        clear hL SD5 O5
        go_wp2_with fail
        refine (pick_any w5.heap.size 2 2 [-1, 6] _ S7.out.src HL.out rfl (by decide) (by decide)).mono ?_
        rintro e w8 ⟨x, rfl, _, hS8, hg8⟩
        have SD8 := Lib.hid (S7.out.next hS8 hg8)
        have O8 := Lib.hid (O7.out.keep (fun g e => hg8.block g (O7.out.lt g e).2 (fun h => by injection h with h; have := (O7.out.lt g e).1; have := S7.out.s2; omega)))
        have hz8 := SD8.out.bw
        clear hS8 hg8 S7 O7 HL
        go_wp2_with (at_builtin; refine wpList_pushI rfl (.tmp 34) (.tmp 38) rfl B2 (.slice A' m c') L rfl (O8.out.alloc _) w8.heap.size 1 x rfl ((Blk.new _ _ _).cell 0) (by rw [Hm.out]; omega) (by simp; omega) (w8.heap.size + 1) (by simp) ?_; intro g' cap w9 ho' hgr hg' hlt'; have Ho9 := Lib.hid ho'; have SD9 := Lib.hid ((SD8.out.alloc (.cells #[I x] 2)).row hgr (fun g e => (O8.out.lt g e).1)); clear ho' hgr hg' hlt')
        have hl9 := Hm.out
        have HR := Lib.hid (show RetDW w (.returned (.tuple #[.slice A5 q c5, .slice (some ⟨g', 0, none⟩) (L.length + 1) cap])) w9 from ⟨A5, q, c5, ms, _, _, _, L ++ [x], rfl, Hq.out.symm, SD9.out.lst, Hp.out, by simp, Ho9.out.mono (Nat.le_trans SD9.out.b0 (Nat.le_of_lt SD9.out.s2)), by omega, SD9.out.bel⟩)
        go_wp2_with fail
        refine bodyPost_ret ?_ rfl HR.out
        simp [results, Tryz.results42, go_sem, *]
      · have r0f : (r == 0) = false := by simpa using r0
        clear r0
        have HR := Lib.hid (show RetDW w (.returned (.tuple #[.slice A5 q c5, .slice A' m c'])) w5 from ⟨A5, q, c5, ms, _, _, _, L, rfl, Hq.out.symm, SD5.out.lst, Hp.out, Hm.out, O5.out.mono (Nat.le_trans SD5.out.b0 (Nat.le_of_lt SD5.out.s2)), by omega, SD5.out.bel⟩)
        clear SD5 O5
        go_wp2_with fail
        refine bodyPost_ret ?_ rfl HR.out
        simp [results, Tryz.results42, go_sem, *]
end Go.Proofs.YtchjegojcpbfpaaGreat
